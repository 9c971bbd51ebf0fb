/- Layer 8, the program: what package bytes answers; the scanner in memory; starts. -/
import Derived.Test.YtgcdhffeacdegaaGreatDoorG04
import Derived.Test.YtgcdhffeacdegaaGreatDoorG06
import Derived.Test.YtgcdhffeacdegaaGreatDoorG03
import Derived.BigQuiet
import Derived.Deep.RegionHeld3
namespace Go.Proofs.YtgcdhffeacdegaaGreatDoor
open Go.RowKit Go.El

def intsB (l : List UInt8) : List Int := l.map fun c => (c.toNat : Int)
theorem intsB_len (l : List UInt8) : (intsB l).length = l.length := by simp [intsB]
theorem bytesOf_ints (l : List UInt8) : Lib.bytesOf (intsB l) = l := by
  unfold Lib.bytesOf intsB
  rw [List.map_map]
  conv => rhs; rw [← List.map_id l]
  apply List.map_congr_left
  intro c _
  simp
theorem intsB_range (l : List UInt8) : ∀ x ∈ intsB l, 0 ≤ x ∧ x < 256 := by
  intro x hx
  obtain ⟨c, _, rfl⟩ := List.mem_map.1 hx
  have := c.toNat_lt
  omega
theorem intsB_at {l : List UInt8} {i : Nat} (h : i < l.length) : (intsB l).getD i 0 = ((l[i]).toNat : Int) := by simp [intsB, List.getD, h]
theorem bytes_cells {w : World} {a : Addr} {l : List UInt8} (h : BytesAt w (some a) l) : ∀ i, i < l.length → w.cell? (a.add i) = some (.int .u8 ((intsB l).getD i 0)) := by
  intro i hi
  obtain ⟨b, off, ha, hc⟩ := bytes_at h hi
  injection ha with ha
  subst ha
  have e : (⟨b, off, none⟩ : Addr).add i = ⟨b, off + i, none⟩ := by simp [Addr.add]
  rw [e, intsB_at hi]
  exact hc i _ (List.getElem?_eq_getElem hi)
theorem bytes_in {w : World} {b off : Nat} {l : List UInt8} (h : BytesAt w (some ⟨b, off, none⟩) l) : Lib.BytesIn w (some ⟨b, off, none⟩) l.length (intsB l) := Lib.BytesIn.of_cells (bytes_cells h)

theorem hasPrefixB {w : World} {b off b2 off2 : Nat} {L M : List UInt8} (c d : Nat) (h : BytesAt w (some ⟨b, off, none⟩) L) (h2 : BytesAt w (some ⟨b2, off2, none⟩) M) (hc : L.length ≤ c) :
    Calls Tryz.prog 164 #[.slice (some ⟨b, off, none⟩) L.length c, .slice (some ⟨b2, off2, none⟩) M.length d] w fun e w' => e = .returned (.bool (M.isPrefixOf L)) ∧ w = w' := by
  have := Tryz.bytes_HasPrefix_all (some ⟨b, off, none⟩) (some ⟨b2, off2, none⟩) L.length c M.length d (intsB L) (intsB M) w (intsB_len L) (intsB_len M) hc (bytes_in h) (bytes_in h2)
  rw [bytesOf_ints, bytesOf_ints] at this
  refine this.mono ?_
  rintro e w' ⟨rfl, rfl⟩
  exact ⟨rfl, rfl⟩
theorem indexByteB {w : World} {a : Addr} {L : List UInt8} (c : Nat) (x : UInt8) (h : BytesAt w (some a) L) :
    Calls Tryz.prog 128 #[.slice (some a) L.length c, .int .u8 (x.toNat : Int)] w fun e w' => e = .returned (.int .i64 (Lib.indexByte L x)) ∧ w = w' := by
  have := Tryz.bytes_IndexByte_at a L.length c (intsB L) (x.toNat : Int) w (intsB_len L) (bytes_cells h)
  rw [bytesOf_ints] at this
  refine this.mono ?_
  rintro e w' ⟨rfl, rfl⟩
  exact ⟨by simp, rfl⟩
theorem indexB {w : World} {a a2 : Addr} {L M : List UInt8} (c d : Nat) (m : Int) (h : BytesAt w (some a) L) (h2 : BytesAt w (some a2) M) (hc : L.length ≤ c) (hL : L.length ≤ 70000) (hM : M.length ≤ 70000) (hm : w.cell? ⟨1, 0, none⟩ = some (.int .i64 m)) :
    Calls Tryz.prog 165 #[.slice (some a) L.length c, .slice (some a2) M.length d] w fun e w' => e = .returned (.int .i64 (Lib.index L M)) ∧ ∃ n, w' = w.drewN n := by
  have := Tryz.bytes_Index_at a a2 L.length c M.length d (intsB L) (intsB M) m w (intsB_len L) (intsB_len M) (intsB_range L) (intsB_range M) (bytes_cells h) (bytes_cells h2) hc (by omega) (by omega) hm
  rw [bytesOf_ints, bytesOf_ints] at this
  exact this

/-- The library's variables that are read. -/
structure Glob (w : World) : Prop where
  max : ∃ m, w.cell? ⟨1, 0, none⟩ = some (.int .i64 m)
  err : ∃ te pe, w.cell? ⟨4, 0, none⟩ = some (.iface te pe)
theorem Glob.ext {w w' : World} (h : Glob w) (x : Ext w w') : Glob w' := by
  obtain ⟨⟨m, hm⟩, te, pe, he⟩ := h
  exact ⟨⟨m, x.cell hm⟩, te, pe, x.cell he⟩
theorem Glob.mods {w w' : World} {S : List Nat} (h : Glob w) (x : Mods S w w') (h1 : 1 ∉ S) (h2 : 4 ∉ S) : Glob w' := by
  obtain ⟨⟨m, hm⟩, te, pe, he⟩ := h
  exact ⟨⟨m, x.cell hm h1⟩, te, pe, x.cell he h2⟩

/-- A scanner in memory: its text, its place. -/
structure ScAt (w : World) (sb b off cap : Nat) (B : List UInt8) (i : Nat) : Prop where
  blk : Blk w sb 141 #[.slice (some ⟨b, off, none⟩) B.length cap, .int .i64 (i : Int)]
  src : BytesAt w (some ⟨b, off, none⟩) B
  ne : b ≠ sb
  len : B.length ≤ 65536
  cap : B.length ≤ cap
  at_ : i ≤ B.length
  glob : Glob w
  n1 : 1 ≠ sb
  n2 : 4 ≠ sb
theorem ScAt.ext {w w' : World} {sb b off cap : Nat} {B : List UInt8} {i : Nat} (h : ScAt w sb b off cap B i) (x : Ext w w') : ScAt w' sb b off cap B i := ⟨h.blk.ext x, h.src.ext x, h.ne, h.len, h.cap, h.at_, h.glob.ext x, h.n1, h.n2⟩
theorem ScAt.move {w : World} {sb b off cap : Nat} {B : List UInt8} {i : Nat} (h : ScAt w sb b off cap B i) {j : Nat} (hj : j ≤ B.length) : ScAt (w.setCell ⟨sb, 1, none⟩ (.int .i64 (j : Int))) sb b off cap B j := by
  refine ⟨h.blk.set_ 1 _, ?_, h.ne, h.len, h.cap, hj, h.glob.mods (S := [sb]) ((Mods.refl [sb] w).setCell (.inl (by simp)) _) (by simpa using h.n1) (by simpa using h.n2), h.n1, h.n2⟩
  exact El.Src.mods h.src ((Mods.refl [sb] w).setCell (.inl (by simp)) _) (fun a ha => by injection ha with ha; subst ha; simpa using h.ne)
theorem ScAt.c0 {w : World} {sb b off cap : Nat} {B : List UInt8} {i : Nat} (h : ScAt w sb b off cap B i) : w.cell? ⟨sb, 0, none⟩ = some (.slice (some ⟨b, off, none⟩) B.length cap) := h.blk.cell 0
theorem ScAt.c1 {w : World} {sb b off cap : Nat} {B : List UInt8} {i : Nat} (h : ScAt w sb b off cap B i) : w.cell? ⟨sb, 1, none⟩ = some (.int .i64 (i : Int)) := h.blk.cell 1

/-- The bytes from a place on. -/
theorem bytes_drop {w : World} {b off : Nat} {l : List UInt8} (h : BytesAt w (some ⟨b, off, none⟩) l) (i : Nat) (hi : i ≤ l.length) : BytesAt w (some ⟨b, off + i, none⟩) (l.drop i) := by
  have h1 := El.Src.drop (n := i) h hi
  have e1 : (⟨b, off, none⟩ : Addr).add (i * 1) = ⟨b, off + i, none⟩ := by simp [Addr.add]
  unfold BytesAt
  rw [e1] at h1
  rw [List.length_drop, List.map_drop]
  simpa using h1

end Go.Proofs.YtgcdhffeacdegaaGreatDoor

/- Layer 8, the program: the walks of starts, row. -/
namespace Go.Proofs.YtgcdhffeacdegaaGreatDoor
open Go.RowKit Go.El

theorem ext_bytes (w : World) (e : TypeId) (s : ByteArray) : Ext w (Lib.bytesWorld w e s) := by
  refine ⟨rfl, rfl, rfl, by rw [Lib.bytesWorld_size]; omega, fun k hk => Lib.bytesWorld_at_old w e s k hk⟩

theorem bytes_new (w : World) (s : ByteArray) : BytesAt (Lib.bytesWorld w 5 s) (some ⟨w.heap.size, 0, none⟩) s.data.toList := by
  refine ⟨by simp, fun _ => ⟨_, rfl, fun j u hj => ?_⟩⟩
  have hjl : j < s.size := by
    have := (List.getElem?_eq_some_iff.1 hj).1
    simpa using this
  have e : (⟨w.heap.size, 0, none⟩ : Addr).add j = ⟨w.heap.size, j, none⟩ := by simp [Addr.add]; omega
  rw [e, Lib.bytesWorld_cell w _ s j hjl]
  have hj2 : j < s.data.toList.length := by simpa using hjl
  rw [List.getElem?_map, List.getElem?_eq_getElem hj2] at hj
  injection hj with hj
  rw [← hj]
  simp only [List.getD, List.getElem?_eq_getElem hj2, Option.getD_some, u8V]

set_option maxRecDepth 100000 in
set_option maxHeartbeats 4000000 in
theorem starts_any (sb b off cap : Nat) (B : List UInt8) (i : Nat) (s : ByteArray) (w : World) (h : ScAt w sb b off cap B i) :
    Calls Tryz.prog 129 #[.pointer (some ⟨sb, 0, none⟩), .string s] w fun e w' => e = .returned (.bool (s.data.toList.isPrefixOf (B.drop i))) ∧ Ext w w' := by
  have c0 := h.c0
  have c1 := h.c1
  have hat := h.at_
  have hcp := h.cap
  have hcv := fun W : World => Lib.run_convert_string_bytes (P := Tryz.prog) W 9 23 5 s Tryz.underlying9 Tryz.underlying23 Tryz.underlying5
  have H := Lib.hid h
  clear h
  have hxw : Ext w (Lib.bytesWorld w.drew 5 s) := ((Ext.refl w).drew).trans (ext_bytes _ _ _)
  have hb2 := bytes_new w.drew s
  have c0b := hxw.cell c0
  have c1b := hxw.cell c1
  by_cases hci : cap = i
  · have hib : i = B.length := by omega
    have hp := hasPrefixB (L := []) 0 (grownCap w.drew s.size 0 5) (El.Src.none (Lib.bytesWorld w.drew 5 s) (some ⟨b, off, none⟩) 1) hb2 (Nat.le_refl _)
    have hdr : B.drop i = [] := by rw [hib]; simp
    rw [hdr]
    subst hci
    subst hib
    have hz : s.data.toList.length = s.size := by simp
    rw [hz] at hp
    have HP := Lib.hid hp
    clear hp hb2 hz hdr
    go_enter Tryz.func129, Tryz.ntmps129
    go_upto_region 1 with fail
    go_region_with (go_at_call 164; refine HP.out.mono ?_; rintro e w' ⟨rfl, rfl⟩)
    all_goals
      go_wp2_with fail
      go_ret
      exact ⟨rfl, hxw⟩
  · have hp := hasPrefixB (L := B.drop i) (cap - i) (grownCap w.drew s.size 0 5) (bytes_drop (H.out.src.ext hxw) i hat) hb2 (by rw [List.length_drop]; omega)
    have hz : s.data.toList.length = s.size := by simp
    rw [hz, List.length_drop] at hp
    have HP := Lib.hid hp
    clear hp hb2 hz
    go_enter Tryz.func129, Tryz.ntmps129
    go_upto_region 1 with fail
    go_region_with (go_at_call 164; refine HP.out.mono ?_; rintro e w' ⟨rfl, rfl⟩)
    all_goals
      go_wp2_with fail
      go_ret
      exact ⟨rfl, hxw⟩

end Go.Proofs.YtgcdhffeacdegaaGreatDoor

/- Layer 8, the reference: the walks of number, escape. -/
namespace Go.Proofs.YtgcdhffeacdegaaGreatDoor
open Go.RowKit Go.El

theorem numV_step (l : List UInt8) (c : UInt8) : numV (l ++ [c]) = 10 * numV l + (c.toNat - 48) := by simp [numV, List.foldl_append]
theorem numV_ge (n : Nat) : ∀ l : List UInt8, n ≤ l.foldl (fun n c => 10 * n + (c.toNat - 48)) n
  | [] => Nat.le_refl _
  | c :: l => by
    have := numV_ge (10 * n + (c.toNat - 48)) l
    simp only [List.foldl_cons]
    omega
theorem numV_take (l : List UInt8) (k : Nat) : numV (l.take k) ≤ numV l := by
  conv => rhs; rw [← List.take_append_drop k l]
  unfold numV
  rw [List.foldl_append]
  exact numV_ge _ _
def numI (l : List UInt8) : Int := if numV l ≤ 9007199254740991 then (numV l : Int) else -1
theorem numI_big {l : List UInt8} {k : Nat} (h : 9007199254740991 < numV (l.take k)) : numI l = -1 := by
  unfold numI
  rw [if_neg (by have := numV_take l k; omega)]
theorem numI_ok {l : List UInt8} (h : numV l ≤ 9007199254740991) : numI l = numV l := by
  unfold numI
  rw [if_pos h]

set_option maxRecDepth 100000 in
set_option maxHeartbeats 1000000 in
theorem rNumber_any (A : Option Addr) (cap : Nat) (L : List UInt8) (w : World) (h : BytesAt w A L) (hL : L.length ≤ 70000) (hd : ∀ c ∈ L, isDigit c = true) :
    Calls Tryz.prog 108 #[.slice A L.length cap] w fun e w' => e = .returned (.int .i64 (numI L)) ∧ w = w' := by
  have H := Lib.hid h
  have HDG := Lib.hid hd
  clear h hd
  go_enter Tryz.func108, Tryz.ntmps108
  go_wp2_with fail
  go_loop [3, 4] (fun n i => ∃ k : Nat, k ≤ L.length ∧ i = .int .i64 k ∧ n = .int .i64 (numV (L.take k) : Nat) ∧ numV (L.take k) ≤ 9007199254740991) (fun _ i => L.length - (intOf i).toNat)
  case atStart => exact ⟨0, Nat.zero_le _, rfl, by simp [numV], by simp [numV]⟩
  case round =>
    obtain ⟨k, hk, rfl, rfl, hn⟩ := hrel
    by_cases hlt : k < L.length
    · obtain ⟨b, off, rfl, hc⟩ := bytes_at H.out hlt
      have ho : L[k]? = some L[k] := List.getElem?_eq_getElem hlt
      have hdg := HDG.out L[k] (List.getElem_mem hlt)
      generalize L[k] = c at ho hdg
      have d0 := hc k c ho
      clear hc
      obtain ⟨h1, h2⟩ : 48 ≤ c.toNat ∧ c.toNat ≤ 57 := by
        have hdn := isDigit_nat c
        rw [hdg] at hdn
        simpa using hdn
      have hst : numV (L.take (k + 1)) = 10 * numV (L.take k) + (c.toNat - 48) := by
        rw [List.take_add_one, ho]
        exact numV_step _ _
      by_cases hbig : 9007199254740991 < numV (L.take (k + 1))
      · have HV := Lib.hid (numI_big hbig)
        generalize numV (L.take (k + 1)) = m at hst hbig
        generalize numV (L.take k) = n at hst hn
        have hd1 : ((c.toNat : Int) - 48) = ((c.toNat - 48 : Nat) : Int) := by omega
        have hd2 : c.toNat - 48 < 10 := by omega
        generalize c.toNat - 48 = d at hst hd1 hd2
        subst hst
        clear ho hdg
        go_wp2_with fail
        all_goals
          first
            | (exfalso; omega)
            | (go_ret
               exact ⟨ret_int HV.out.symm, rfl⟩)
      · have HST := Lib.hid hst
        generalize numV (L.take k) = n at hst hn HST
        have hb2 : 10 * n + (c.toNat - 48) ≤ 9007199254740991 := by omega
        have hd1 : ((c.toNat : Int) - 48) = ((c.toNat - 48 : Nat) : Int) := by omega
        have hd2 : c.toNat - 48 < 10 := by omega
        generalize c.toNat - 48 = d at hb2 hd1 hd2 HST
        clear ho hdg hst hbig
        go_wp2_with fail
        all_goals
          first
            | (exfalso; omega)
            | (go_round
               case rel => exact ⟨k + 1, hlt, by go_num, by rw [HST.out]; go_num, by rw [HST.out]; exact hb2⟩
               case measure => simp [intOf]; omega)
    · obtain rfl : k = L.length := by omega
      rw [List.take_length] at hn ⊢
      have HV := Lib.hid (numI_ok hn)
      go_wp2_with fail
      go_ret
      exact ⟨ret_int HV.out.symm, rfl⟩

end Go.Proofs.YtgcdhffeacdegaaGreatDoor

/- Layer 8, the reference: the walk of escape. -/
namespace Go.Proofs.YtgcdhffeacdegaaGreatDoor
open Go.RowKit Go.El

theorem hexV_lt (c : UInt8) (h : isHex c = true) : hexV c < 16 := by
  have := all_bytes (p := fun c => (!isHex c || decide (hexV c < 16)) = true) (by decide +kernel) c
  simpa [h] using this
theorem hexI_yes (c : UInt8) (h : isHex c = true) : hexI c = (hexV c : Int) := by unfold hexI; rw [h]; rfl
theorem hexI_no (c : UInt8) (h : isHex c = false) : hexI c = -1 := by unfold hexI; rw [h]; rfl
theorem rHex_yes (c : UInt8) (h : isHex c = true) (w : World) : Calls Tryz.prog 172 #[.int .u8 (c.toNat : Int)] w fun e w' => e = .returned (.int .i64 (hexV c : Int)) ∧ w = w' := by
  refine (rHex_any c w).mono ?_
  rintro e w' ⟨rfl, rfl⟩
  exact ⟨by rw [hexI_yes c h], rfl⟩
theorem rHex_no (c : UInt8) (h : isHex c = false) (w : World) : Calls Tryz.prog 172 #[.int .u8 (c.toNat : Int)] w fun e w' => e = .returned (.int .i64 (-1)) ∧ w = w' := by
  refine (rHex_any c w).mono ?_
  rintro e w' ⟨rfl, rfl⟩
  exact ⟨by rw [hexI_no c h], rfl⟩

/-- What stands behind a backslash and an x. -/
theorem escS_x {B : List UInt8} {i : Nat} (h : B[i]? = some 120) : escS B i =
    match B[i + 1]? with
    | none => none
    | some a => if isHex a then
        match B[i + 2]? with
        | none => none
        | some b => if isHex b then (if B[i + 3]? = some 92 then some (UInt8.ofNat (16 * hexV a + hexV b), i + 4) else none)
          else if b = 92 then some (UInt8.ofNat (hexV a), i + 3) else none
      else none := by
  unfold escS
  rw [h]
  simp only [show ¬ ((120 : UInt8) = 92 ∨ (120 : UInt8) = 39) from by decide, show ¬ ((120 : UInt8) = 110) from by decide, show ¬ ((120 : UInt8) = 116) from by decide, if_false, if_true]
  cases h1 : B[i + 1]? with
  | none =>
    have e : rowTo isHex B (i + 1) = i + 1 := rowTo_end h1
    rw [e, h1]
    simp
  | some a =>
    cases ha : isHex a with
    | false =>
      have e : rowTo isHex B (i + 1) = i + 1 := rowTo_no h1 ha
      rw [e, h1]
      simp [ha]
    | true =>
      have g1 : B.getD (i + 1) 0 = a := by simp [List.getD, h1]
      cases h2 : B[i + 2]? with
      | none =>
        have e : rowTo isHex B (i + 1) = i + 2 := (rowTo_yes h1 ha).trans (rowTo_end h2)
        rw [e, h2]
        simp
      | some b =>
        cases hb : isHex b with
        | false =>
          have e : rowTo isHex B (i + 1) = i + 2 := (rowTo_yes h1 ha).trans (rowTo_no h2 hb)
          rw [e, h2, g1]
          by_cases e92 : b = 92
          · simp [e92, ha, show isHex 92 = false from rfl]
          · simp [e92, ha, hb]
        | true =>
          have g2 : B.getD (i + 2) 0 = b := by simp [List.getD, h2]
          have e0 : rowTo isHex B (i + 1) = rowTo isHex B (i + 3) := (rowTo_yes h1 ha).trans (rowTo_yes h2 hb)
          rw [g1, g2]
          by_cases h3 : B[i + 3]? = some 92
          · have e : rowTo isHex B (i + 1) = i + 3 := e0.trans (rowTo_no h3 (by decide))
            rw [e, h3]
            simp [ha, hb]
          · simp only [hb, if_true]
            rw [if_neg h3]
            have hge := rowTo_ge isHex B (i + 3)
            by_cases he : rowTo isHex B (i + 1) = i + 3
            · rw [he, if_neg h3]
              simp
            · split
              · rw [if_neg (by omega)]
              · rfl

def escV : Option (UInt8 × Nat) → Value
  | none => .tuple #[.int .u8 0, .int .i64 0, .bool false]
  | some (x, j) => .tuple #[.int .u8 (x.toNat : Int), .int .i64 (j : Int), .bool true]
theorem ret_esc {a b : Option (UInt8 × Nat)} (h : a = b) : Ending.returned (escV a) = .returned (escV b) := by rw [h]
theorem nat8 {n : Nat} (h : n < 256) : ((UInt8.ofNat n).toNat : Int) = (n : Int) := by
  rw [UInt8.toNat_ofNat']
  omega

theorem u8_ne {c : UInt8} {n : Nat} (hn : n < 256) (h : c ≠ UInt8.ofNat n) : ((c.toNat : Int) == (n : Int)) = false := by
  rw [u8_eq hn]
  simpa using h

def escM (k : Int) : Nat := 2 - k.toNat
def EscSt (B : List UInt8) (i k : Nat) (n : Value) : Prop := (k = 0 ∧ n = .int .i64 0) ∨ (∃ a : UInt8, k = 1 ∧ Hid (B[i + 1]? = some a) ∧ Hid (isHex a = true) ∧ n = .int .i64 (hexV a : Int) ∧ hexV a < 16) ∨ (∃ a c : UInt8, k = 2 ∧ Hid (B[i + 1]? = some a) ∧ Hid (isHex a = true) ∧ Hid (B[i + 2]? = some c) ∧ Hid (isHex c = true) ∧ n = .int .i64 ((16 * hexV a + hexV c : Nat) : Int) ∧ 16 * hexV a + hexV c < 256)

set_option maxRecDepth 100000 in
set_option maxHeartbeats 2000000 in
theorem rEscX_any (b off cap : Nat) (B : List UInt8) (i : Nat) (w : World) (HC : Hid (∀ j c, B[j]? = some c → w.cell? ⟨b, off + j, none⟩ = some (.int .u8 (c.toNat : Int)))) (hi : B[i]? = some 120) (hB : B.length ≤ 70000) :
    Calls Tryz.prog 147 #[.slice (some ⟨b, off, none⟩) B.length cap, .int .i64 (i : Int)] w fun e w' => e = .returned (escV (escS B i)) ∧ w = w' := by
  have d0 := HC.out i _ hi
  have hlt : i < B.length := (List.getElem?_eq_some_iff.1 hi).1
  have HE := Lib.hid (escS_x hi)
  have hnl : decide (B.length ≤ i) = false := by simpa using hlt
  clear hi
  go_enter Tryz.func147, Tryz.ntmps147
  go_wp2_with fail
  go_loop [7, 8] (fun n kv => ∃ k : Nat, kv = .int .i64 k ∧ EscSt B i k n) (fun _ k => escM (intOf k))
  case atStart => exact ⟨0, rfl, .inl ⟨rfl, rfl⟩⟩
  case round =>
    rcases hrel with ⟨k, rfl, ⟨rfl, rfl⟩ | ⟨a, rfl, H1, HA, rfl, hva⟩ | ⟨a, c, rfl, H1, HA, H2, HX, rfl, hv⟩⟩
    · by_cases h1 : i + 1 < B.length
      · have ho : B[i + 1]? = some B[i + 1] := List.getElem?_eq_getElem h1
        generalize B[i + 1] = a at ho
        have d1 := HC.out _ _ ho
        cases ha : isHex a
        · have HN := Lib.hid (show escS B i = none from by rw [HE.out, ho]; simp [ha])
          have HA := Lib.hid ha
          clear ho ha
          go_wp2_with (go_at_call 172; refine (rHex_no _ HA.out _).mono ?_; rintro e w' ⟨rfl, rfl⟩)
          go_ret3
          exact ⟨ret_esc HN.out.symm, rfl⟩
        · have HA := Lib.hid ha
          have HO := Lib.hid ho
          have hv := hexV_lt a ha
          clear ho ha
          go_wp2_with (go_at_call 172; refine (rHex_yes _ HA.out _).mono ?_; rintro e w' ⟨rfl, rfl⟩)
          go_round
          case rel => exact ⟨1, by go_num, .inr (.inl ⟨a, rfl, HO, HA, by go_num, hv⟩)⟩
          case measure => simp [intOf, escM]
      · have HN := Lib.hid (show escS B i = none from by rw [HE.out, List.getElem?_eq_none (by omega)])
        go_wp2_with fail
        go_ret3
        exact ⟨ret_esc HN.out.symm, rfl⟩
    · by_cases h2 : i + 2 < B.length
      · have ho : B[i + 2]? = some B[i + 2] := List.getElem?_eq_getElem h2
        generalize B[i + 2] = c at ho
        have d2 := HC.out _ _ ho
        cases hc : isHex c
        · have HX := Lib.hid hc
          by_cases h92 : c = 92
          · subst h92
            have HN := Lib.hid (show escS B i = some (UInt8.ofNat (hexV a), i + 3) from by rw [HE.out, H1.out]; simp [HA.out, ho, hc])
            have h8 := nat8 (n := hexV a) (by omega)
            clear ho hc
            go_wp2_with (go_at_call 172; refine (rHex_no _ HX.out _).mono ?_; rintro e w' ⟨rfl, rfl⟩)
            go_ret3
            refine ⟨?_, rfl⟩
            rw [HN.out]
            show _ = Ending.returned (.tuple #[.int .u8 ((UInt8.ofNat (hexV a)).toNat : Int), .int .i64 ((i + 3 : Nat) : Int), .bool true])
            rw [h8]
            go_num
          · have HN := Lib.hid (show escS B i = none from by rw [HE.out, H1.out]; simp [HA.out, ho, hc, h92])
            have hq := u8_ne (n := 92) (by omega) h92
            rw [show ((92 : Nat) : Int) = (92 : Int) from rfl] at hq
            clear ho hc h92
            go_wp2_with (go_at_call 172; refine (rHex_no _ HX.out _).mono ?_; rintro e w' ⟨rfl, rfl⟩)
            go_ret3
            exact ⟨ret_esc HN.out.symm, rfl⟩
        · have HX := Lib.hid hc
          have HO := Lib.hid ho
          have hv := hexV_lt c hc
          clear ho hc
          go_wp2_with (go_at_call 172; refine (rHex_yes _ HX.out _).mono ?_; rintro e w' ⟨rfl, rfl⟩)
          go_round
          case rel => exact ⟨2, by go_num, .inr (.inr ⟨a, c, rfl, H1, HA, HO, HX, by go_num, by omega⟩)⟩
          case measure => simp [intOf, escM]
      · have HN := Lib.hid (show escS B i = none from by rw [HE.out, H1.out, List.getElem?_eq_none (l := B) (i := i + 2) (by omega)]; simp)
        go_wp2_with fail
        go_ret3
        exact ⟨ret_esc HN.out.symm, rfl⟩
    · by_cases h3 : i + 3 < B.length
      · have ho : B[i + 3]? = some B[i + 3] := List.getElem?_eq_getElem h3
        generalize B[i + 3] = z at ho
        have d3 := HC.out _ _ ho
        have h8 := nat8 hv
        by_cases h92 : z = 92
        · subst h92
          have HN := Lib.hid (show escS B i = some (UInt8.ofNat (16 * hexV a + hexV c), i + 4) from by rw [HE.out, H1.out]; simp [HA.out, H2.out, HX.out, ho])
          generalize 16 * hexV a + hexV c = v at HN hv h8
          clear ho
          go_wp2_with fail
          go_ret3
          refine ⟨?_, rfl⟩
          rw [HN.out]
          show _ = Ending.returned (.tuple #[.int .u8 ((UInt8.ofNat v).toNat : Int), .int .i64 ((i + 4 : Nat) : Int), .bool true])
          rw [h8]
          go_num
        · have HN := Lib.hid (show escS B i = none from by rw [HE.out, H1.out]; simp [HA.out, H2.out, HX.out, ho, h92])
          have hq := u8_ne (n := 92) (by omega) h92
          rw [show ((92 : Nat) : Int) = (92 : Int) from rfl] at hq
          generalize 16 * hexV a + hexV c = v at hv h8
          clear ho h92
          go_wp2_with fail
          go_ret3
          exact ⟨ret_esc HN.out.symm, rfl⟩
      · have HN := Lib.hid (show escS B i = none from by rw [HE.out, H1.out]; simp [HA.out, H2.out, HX.out, List.getElem?_eq_none (l := B) (i := i + 3) (by omega)])
        generalize 16 * hexV a + hexV c = v at hv
        go_wp2_with fail
        go_ret3
        exact ⟨ret_esc HN.out.symm, rfl⟩

end Go.Proofs.YtgcdhffeacdegaaGreatDoor
