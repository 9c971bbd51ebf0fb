/- Bytes: strings out of bytes, bytes that a call gathers. -/
import Derived.Test.YtlkpiigdmmhkpaaGreatDoorC09
import Derived.Laws.BytesArg
import Derived.Laws.IdiomStrings
import Derived.Lib.ConvBytes
import Derived.Test.YtlkpiigdmmhkpaaGreatDoorC07
import Derived.Test.YtlkpiigdmmhkpaaGreatDoorC05
import Derived.BigQuiet
import Derived.Deep.RegionHeld3
namespace Go.Proofs.YtlkpiigdmmhkpaaGreatDoor
open Go.RowKit Go.El

/-- The string of these bytes. -/
def strB (l : List UInt8) : ByteArray := ⟨l.toArray⟩
theorem strB_size (l : List UInt8) : (strB l).size = l.length := by simp [strB, ByteArray.size]
theorem strB_toList (l : List UInt8) : (strB l).data.toList = l := by simp [strB]
theorem strB_mk (s : ByteArray) : strB s.data.toList = s := by simp [strB]

theorem conv_str {w : World} {A : Option Addr} {l : List UInt8} (c : Nat) (h : BytesAt w A l) : (convert 68 9 (.slice A l.length c)).run Tryz.prog w = .ok (.string (strB l)) w := by
  rcases A with _ | a
  · have hl : l = [] := by
      rcases l with _ | ⟨x, l⟩
      · rfl
      · obtain ⟨b, off, ha, _⟩ := bytes_at (k := 0) h (by simp)
        cases ha
    subst hl
    exact run_convert_bytes_nil w 68 5 Tryz.underlying68 Tryz.underlying5 _ _ 9 Tryz.underlying9
  · refine run_convert_bytes_back w 68 9 5 a c l Tryz.underlying68 Tryz.underlying5 Tryz.underlying9 fun j hj => ?_
    obtain ⟨b, off, ha, hc⟩ := bytes_at (k := j) h hj
    injection ha with ha
    subst ha
    have e : (⟨b, off, none⟩ : Addr).add j = ⟨b, off + j, none⟩ := by simp [Addr.add]
    rw [e]
    exact hc j _ (List.getElem?_eq_getElem hj)

/-- Part of these bytes. -/
theorem bytes_sub {w : World} {b off : Nat} {l : List UInt8} (h : BytesAt w (some ⟨b, off, none⟩) l) (i j : Nat) (hij : i ≤ j) (hj : j ≤ l.length) : BytesAt w (some ⟨b, off + i, none⟩) (sub l i j) := by
  have h1 := El.Src.drop (n := i) h (by omega)
  have h2 := El.Src.take (n := j - i) h1 (by omega)
  have e1 : (⟨b, off, none⟩ : Addr).add (i * 1) = ⟨b, off + i, none⟩ := by simp [Addr.add]
  have e2 : (sub l i j).length = j - i := by unfold sub; simp; omega
  unfold BytesAt
  rw [e2]
  rw [e1] at h2
  have e3 : ((l.map u8V).drop (i * 1)).take ((j - i) * 1) = (sub l i j).map u8V := by unfold sub; simp [List.map_drop, List.map_take]
  rw [e3] at h2
  exact h2
theorem sub_length {l : List UInt8} {i j : Nat} (hj : j ≤ l.length) : (sub l i j).length = j - i := by unfold sub; simp; omega

/-- Bytes that a call has gathered in a slice of its own. -/
structure GathB (X wr : World) (v : Value) (F : List UInt8) : Prop where
  own : wr.ownsRow 0 5 1 v F.length (F.map u8V)
  far : ∀ b, v.ownBlock = some b → X.heap.size ≤ b
  ext : Ext X wr
theorem GathB.start (X : World) : GathB X X (.slice none 0 0) [] := ⟨World.ownsRow_nil _ _ _ _, fun b hb => by simp [Value.ownBlock] at hb, Ext.refl _⟩
theorem GathB.go {X wr w' : World} {v : Value} {F : List UInt8} (h : GathB X wr v F) (x : Ext wr w') : GathB X w' v F := ⟨own_ext h.own x, h.far, h.ext.trans x⟩
theorem ext_mods {X V w' : World} {S : List Nat} (h : Ext X V) (hm : Mods S V w') (hS : ∀ k, k ∈ S → X.heap.size ≤ k) : Ext X w' := (Mods.step (S := []) (Mods.ext h) hm (fun x hx => .inr (hS x hx))).toExt (by simp)
theorem mem_ownL {v : Value} {k : Nat} (h : k ∈ ownL v) : v.ownBlock = some k := by simpa [ownL] using h
theorem GathB.step {X wr V w' : World} {v v' : Value} {F : List UInt8} {G : List UInt8} (h : GathB X wr v F) (x : Ext wr V) (ho : w'.ownsRow 0 5 1 v' (F.length + G.length) (F.map u8V ++ G.map u8V)) (hm : Mods (ownL v) V w') (hb : v'.ownBlock = v.ownBlock ∨ v'.ownBlock = some V.heap.size) : GathB X w' v' (F ++ G) := by
  refine ⟨?_, fun b hb' => ?_, ext_mods (h.ext.trans x) hm (fun k hk => h.far k (mem_ownL hk))⟩
  · rw [List.map_append, List.length_append]
    exact ho
  · rcases hb with e | e
    · exact h.far b (e.symm.trans hb')
    · rw [e] at hb'
      injection hb' with hb'
      subst hb'
      exact Nat.le_trans h.ext.size x.size
theorem GathB.slice {X wr : World} {v : Value} {F : List UInt8} (h : GathB X wr v F) : ∃ A c, v = .slice A F.length c ∧ BytesAt wr A F := by
  obtain ⟨A, c, rfl⟩ := own_value h.own
  exact ⟨A, c, rfl, El.Src.of_own h.own⟩
theorem u8_one (l : List UInt8) : ∀ u ∈ l.map u8V, u.oneCell' = true := by
  intro u hu
  obtain ⟨c, _, rfl⟩ := List.mem_map.1 hu
  rfl
theorem u8Info : (Tryz.prog.info? 5).map (fun i => (i.zero, i.size, i.bytes)) = some (some (.int .u8 0), 1, 1) := by kernel_rfl
theorem infoP {P : Program} {t : TypeId} {z : Option Value} {n b : Nat} (h : (P.info? t).map (fun i => (i.zero, i.size, i.bytes)) = some (z, n, b)) : ∃ i, P.info? t = some i ∧ i.zero = z ∧ i.size = n ∧ i.bytes = b := by
  cases hi : P.info? t with
  | none => rw [hi] at h; cases h
  | some i =>
    rw [hi] at h
    injection h with h
    injection h with h1 h2
    injection h2 with h2 h3
    exact ⟨i, rfl, h1, h2, h3⟩

end Go.Proofs.YtlkpiigdmmhkpaaGreatDoor

/- Layer 8, the program: what package bytes answers; the scanner in memory; starts. -/
namespace Go.Proofs.YtlkpiigdmmhkpaaGreatDoor
open Go.RowKit Go.El

def intsB (l : List UInt8) : List Int := l.map fun c => (c.toNat : Int)
theorem intsB_len (l : List UInt8) : (intsB l).length = l.length := by simp [intsB]
theorem bytesOf_ints (l : List UInt8) : Lib.bytesOf (intsB l) = l := by
  unfold Lib.bytesOf intsB
  rw [List.map_map]
  conv => rhs; rw [← List.map_id l]
  apply List.map_congr_left
  intro c _
  simp
theorem intsB_range (l : List UInt8) : ∀ x ∈ intsB l, 0 ≤ x ∧ x < 256 := by
  intro x hx
  obtain ⟨c, _, rfl⟩ := List.mem_map.1 hx
  have := c.toNat_lt
  omega
theorem intsB_at {l : List UInt8} {i : Nat} (h : i < l.length) : (intsB l).getD i 0 = ((l[i]).toNat : Int) := by simp [intsB, List.getD, h]
theorem bytes_cells {w : World} {a : Addr} {l : List UInt8} (h : BytesAt w (some a) l) : ∀ i, i < l.length → w.cell? (a.add i) = some (.int .u8 ((intsB l).getD i 0)) := by
  intro i hi
  obtain ⟨b, off, ha, hc⟩ := bytes_at h hi
  injection ha with ha
  subst ha
  have e : (⟨b, off, none⟩ : Addr).add i = ⟨b, off + i, none⟩ := by simp [Addr.add]
  rw [e, intsB_at hi]
  exact hc i _ (List.getElem?_eq_getElem hi)
theorem bytes_in {w : World} {b off : Nat} {l : List UInt8} (h : BytesAt w (some ⟨b, off, none⟩) l) : Lib.BytesIn w (some ⟨b, off, none⟩) l.length (intsB l) := Lib.BytesIn.of_cells (bytes_cells h)

theorem hasPrefixB {w : World} {b off b2 off2 : Nat} {L M : List UInt8} (c d : Nat) (h : BytesAt w (some ⟨b, off, none⟩) L) (h2 : BytesAt w (some ⟨b2, off2, none⟩) M) (hc : L.length ≤ c) :
    Calls Tryz.prog 129 #[.slice (some ⟨b, off, none⟩) L.length c, .slice (some ⟨b2, off2, none⟩) M.length d] w fun e w' => e = .returned (.bool (M.isPrefixOf L)) ∧ w = w' := by
  have := Tryz.bytes_HasPrefix_all (some ⟨b, off, none⟩) (some ⟨b2, off2, none⟩) L.length c M.length d (intsB L) (intsB M) w (intsB_len L) (intsB_len M) hc (bytes_in h) (bytes_in h2)
  rw [bytesOf_ints, bytesOf_ints] at this
  refine this.mono ?_
  rintro e w' ⟨rfl, rfl⟩
  exact ⟨rfl, rfl⟩
theorem indexByteB {w : World} {a : Addr} {L : List UInt8} (c : Nat) (x : UInt8) (h : BytesAt w (some a) L) :
    Calls Tryz.prog 113 #[.slice (some a) L.length c, .int .u8 (x.toNat : Int)] w fun e w' => e = .returned (.int .i64 (Lib.indexByte L x)) ∧ w = w' := by
  have := Tryz.bytes_IndexByte_at a L.length c (intsB L) (x.toNat : Int) w (intsB_len L) (bytes_cells h)
  rw [bytesOf_ints] at this
  refine this.mono ?_
  rintro e w' ⟨rfl, rfl⟩
  exact ⟨by simp, rfl⟩
theorem indexB {w : World} {a a2 : Addr} {L M : List UInt8} (c d : Nat) (m : Int) (h : BytesAt w (some a) L) (h2 : BytesAt w (some a2) M) (hc : L.length ≤ c) (hL : L.length ≤ 70000) (hM : M.length ≤ 70000) (hm : w.cell? ⟨1, 0, none⟩ = some (.int .i64 m)) :
    Calls Tryz.prog 130 #[.slice (some a) L.length c, .slice (some a2) M.length d] w fun e w' => e = .returned (.int .i64 (Lib.index L M)) ∧ ∃ n, w' = w.drewN n := by
  have := Tryz.bytes_Index_at a a2 L.length c M.length d (intsB L) (intsB M) m w (intsB_len L) (intsB_len M) (intsB_range L) (intsB_range M) (bytes_cells h) (bytes_cells h2) hc (by omega) (by omega) hm
  rw [bytesOf_ints, bytesOf_ints] at this
  exact this

/-- The library's variables that are read. -/
structure Glob (w : World) : Prop where
  max : ∃ m, w.cell? ⟨1, 0, none⟩ = some (.int .i64 m)
  err : ∃ te pe, w.cell? ⟨4, 0, none⟩ = some (.iface te pe)
theorem Glob.ext {w w' : World} (h : Glob w) (x : Ext w w') : Glob w' := by
  obtain ⟨⟨m, hm⟩, te, pe, he⟩ := h
  exact ⟨⟨m, x.cell hm⟩, te, pe, x.cell he⟩
theorem Glob.mods {w w' : World} {S : List Nat} (h : Glob w) (x : Mods S w w') (h1 : 1 ∉ S) (h2 : 4 ∉ S) : Glob w' := by
  obtain ⟨⟨m, hm⟩, te, pe, he⟩ := h
  exact ⟨⟨m, x.cell hm h1⟩, te, pe, x.cell he h2⟩

/-- A scanner in memory: its text, its place. -/
structure ScAt (w : World) (sb b off cap : Nat) (B : List UInt8) (i : Nat) : Prop where
  blk : Blk w sb 122 #[.slice (some ⟨b, off, none⟩) B.length cap, .int .i64 (i : Int)]
  src : BytesAt w (some ⟨b, off, none⟩) B
  ne : b ≠ sb
  len : B.length ≤ 65536
  cap : B.length ≤ cap
  at_ : i ≤ B.length
  glob : Glob w
  n1 : 1 ≠ sb
  n2 : 4 ≠ sb
theorem ScAt.ext {w w' : World} {sb b off cap : Nat} {B : List UInt8} {i : Nat} (h : ScAt w sb b off cap B i) (x : Ext w w') : ScAt w' sb b off cap B i := ⟨h.blk.ext x, h.src.ext x, h.ne, h.len, h.cap, h.at_, h.glob.ext x, h.n1, h.n2⟩
theorem ScAt.move {w : World} {sb b off cap : Nat} {B : List UInt8} {i : Nat} (h : ScAt w sb b off cap B i) {j : Nat} (hj : j ≤ B.length) : ScAt (w.setCell ⟨sb, 1, none⟩ (.int .i64 (j : Int))) sb b off cap B j := by
  refine ⟨h.blk.set_ 1 _, ?_, h.ne, h.len, h.cap, hj, h.glob.mods (S := [sb]) ((Mods.refl [sb] w).setCell (.inl (by simp)) _) (by simpa using h.n1) (by simpa using h.n2), h.n1, h.n2⟩
  exact El.Src.mods h.src ((Mods.refl [sb] w).setCell (.inl (by simp)) _) (fun a ha => by injection ha with ha; subst ha; simpa using h.ne)
theorem ScAt.c0 {w : World} {sb b off cap : Nat} {B : List UInt8} {i : Nat} (h : ScAt w sb b off cap B i) : w.cell? ⟨sb, 0, none⟩ = some (.slice (some ⟨b, off, none⟩) B.length cap) := h.blk.cell 0
theorem ScAt.c1 {w : World} {sb b off cap : Nat} {B : List UInt8} {i : Nat} (h : ScAt w sb b off cap B i) : w.cell? ⟨sb, 1, none⟩ = some (.int .i64 (i : Int)) := h.blk.cell 1

/-- The bytes from a place on. -/
theorem bytes_drop {w : World} {b off : Nat} {l : List UInt8} (h : BytesAt w (some ⟨b, off, none⟩) l) (i : Nat) (hi : i ≤ l.length) : BytesAt w (some ⟨b, off + i, none⟩) (l.drop i) := by
  have h1 := El.Src.drop (n := i) h hi
  have e1 : (⟨b, off, none⟩ : Addr).add (i * 1) = ⟨b, off + i, none⟩ := by simp [Addr.add]
  unfold BytesAt
  rw [e1] at h1
  rw [List.length_drop, List.map_drop]
  simpa using h1

end Go.Proofs.YtlkpiigdmmhkpaaGreatDoor

/- Layer 8, the program: the walks of starts, row. -/
namespace Go.Proofs.YtlkpiigdmmhkpaaGreatDoor
open Go.RowKit Go.El

theorem ext_bytes (w : World) (e : TypeId) (s : ByteArray) : Ext w (Lib.bytesWorld w e s) := by
  refine ⟨rfl, rfl, rfl, by rw [Lib.bytesWorld_size]; omega, fun k hk => Lib.bytesWorld_at_old w e s k hk⟩

theorem bytes_new (w : World) (s : ByteArray) : BytesAt (Lib.bytesWorld w 5 s) (some ⟨w.heap.size, 0, none⟩) s.data.toList := by
  refine ⟨by simp, fun _ => ⟨_, rfl, fun j u hj => ?_⟩⟩
  have hjl : j < s.size := by
    have := (List.getElem?_eq_some_iff.1 hj).1
    simpa using this
  have e : (⟨w.heap.size, 0, none⟩ : Addr).add j = ⟨w.heap.size, j, none⟩ := by simp [Addr.add]; omega
  rw [e, Lib.bytesWorld_cell w _ s j hjl]
  have hj2 : j < s.data.toList.length := by simpa using hjl
  rw [List.getElem?_map, List.getElem?_eq_getElem hj2] at hj
  injection hj with hj
  rw [← hj]
  simp only [List.getD, List.getElem?_eq_getElem hj2, Option.getD_some, u8V]

theorem sc_keep {w W W' : World} {sb : Nat} {u v : Value} (x : Ext W W') (h : W.cell? ⟨sb, 0, none⟩ = some u ∧ W.cell? ⟨sb, 1, none⟩ = some v ∧ Hid (Ext w W)) : W'.cell? ⟨sb, 0, none⟩ = some u ∧ W'.cell? ⟨sb, 1, none⟩ = some v ∧ Hid (Ext w W') :=
  ⟨x.cell h.1, x.cell h.2.1, h.2.2.out.trans x⟩

set_option maxRecDepth 100000 in
set_option maxHeartbeats 4000000 in
theorem starts_any (sb b off cap : Nat) (B : List UInt8) (i : Nat) (s : ByteArray) (w : World) (h : ScAt w sb b off cap B i) :
    Calls Tryz.prog 114 #[.pointer (some ⟨sb, 0, none⟩), .string s] w fun e w' => e = .returned (.bool (s.data.toList.isPrefixOf (B.drop i))) ∧ Ext w w' := by
  have c0 := h.c0
  have c1 := h.c1
  have hat := h.at_
  have hcp := h.cap
  have hcv := fun W : World => Lib.run_convert_string_bytes (P := Tryz.prog) W 9 68 5 s Tryz.underlying9 Tryz.underlying68 Tryz.underlying5
  have H := Lib.hid h
  clear h
  have hxw : Ext w (Lib.bytesWorld w.drew 5 s) := ((Ext.refl w).drew).trans (ext_bytes _ _ _)
  have hb2 := bytes_new w.drew s
  have c0b := hxw.cell c0
  have c1b := hxw.cell c1
  by_cases hci : cap = i
  · have hib : i = B.length := by omega
    have hp := hasPrefixB (L := []) 0 (grownCap w.drew s.size 0 5) (El.Src.none (Lib.bytesWorld w.drew 5 s) (some ⟨b, off, none⟩) 1) hb2 (Nat.le_refl _)
    have hdr : B.drop i = [] := by rw [hib]; simp
    rw [hdr]
    subst hci
    subst hib
    have hz : s.data.toList.length = s.size := by simp
    rw [hz] at hp
    have HP := Lib.hid hp
    clear hp hb2 hz hdr
    go_enter Tryz.func114, Tryz.ntmps114
    go_upto_region 1 with fail
    go_region_with (go_at_call 129; refine HP.out.mono ?_; rintro e w' ⟨rfl, rfl⟩)
    all_goals
      go_wp2_with fail
      go_ret
      exact ⟨rfl, hxw⟩
  · have hp := hasPrefixB (L := B.drop i) (cap - i) (grownCap w.drew s.size 0 5) (bytes_drop (H.out.src.ext hxw) i hat) hb2 (by rw [List.length_drop]; omega)
    have hz : s.data.toList.length = s.size := by simp
    rw [hz, List.length_drop] at hp
    have HP := Lib.hid hp
    clear hp hb2 hz
    go_enter Tryz.func114, Tryz.ntmps114
    go_upto_region 1 with fail
    go_region_with (go_at_call 129; refine HP.out.mono ?_; rintro e w' ⟨rfl, rfl⟩)
    all_goals
      go_wp2_with fail
      go_ret
      exact ⟨rfl, hxw⟩

end Go.Proofs.YtlkpiigdmmhkpaaGreatDoor

/- Layer 8, the reference: the walks of number, escape. -/
namespace Go.Proofs.YtlkpiigdmmhkpaaGreatDoor
open Go.RowKit Go.El

theorem numV_step (l : List UInt8) (c : UInt8) : numV (l ++ [c]) = 10 * numV l + (c.toNat - 48) := by simp [numV, List.foldl_append]
theorem numV_ge (n : Nat) : ∀ l : List UInt8, n ≤ l.foldl (fun n c => 10 * n + (c.toNat - 48)) n
  | [] => Nat.le_refl _
  | c :: l => by
    have := numV_ge (10 * n + (c.toNat - 48)) l
    simp only [List.foldl_cons]
    omega
theorem numV_take (l : List UInt8) (k : Nat) : numV (l.take k) ≤ numV l := by
  conv => rhs; rw [← List.take_append_drop k l]
  unfold numV
  rw [List.foldl_append]
  exact numV_ge _ _
def numI (l : List UInt8) : Int := if numV l ≤ 9007199254740991 then (numV l : Int) else -1
theorem numI_big {l : List UInt8} {k : Nat} (h : 9007199254740991 < numV (l.take k)) : numI l = -1 := by
  unfold numI
  rw [if_neg (by have := numV_take l k; omega)]
theorem numI_ok {l : List UInt8} (h : numV l ≤ 9007199254740991) : numI l = numV l := by
  unfold numI
  rw [if_pos h]

set_option maxRecDepth 100000 in
set_option maxHeartbeats 1000000 in
theorem rNumber_any (A : Option Addr) (cap : Nat) (L : List UInt8) (w : World) (h : BytesAt w A L) (hL : L.length ≤ 70000) (hd : ∀ c ∈ L, isDigit c = true) :
    Calls Tryz.prog 135 #[.slice A L.length cap] w fun e w' => e = .returned (.int .i64 (numI L)) ∧ w = w' := by
  have H := Lib.hid h
  have HDG := Lib.hid hd
  clear h hd
  go_enter Tryz.func135, Tryz.ntmps135
  go_wp2_with fail
  go_loop [3, 4] (fun n i => ∃ k : Nat, k ≤ L.length ∧ i = .int .i64 k ∧ n = .int .i64 (numV (L.take k) : Nat) ∧ numV (L.take k) ≤ 9007199254740991) (fun _ i => L.length - (intOf i).toNat)
  case atStart => exact ⟨0, Nat.zero_le _, rfl, by simp [numV], by simp [numV]⟩
  case round =>
    obtain ⟨k, hk, rfl, rfl, hn⟩ := hrel
    by_cases hlt : k < L.length
    · obtain ⟨b, off, rfl, hc⟩ := bytes_at H.out hlt
      have ho : L[k]? = some L[k] := List.getElem?_eq_getElem hlt
      have hdg := HDG.out L[k] (List.getElem_mem hlt)
      generalize L[k] = c at ho hdg
      have d0 := hc k c ho
      clear hc
      obtain ⟨h1, h2⟩ : 48 ≤ c.toNat ∧ c.toNat ≤ 57 := by
        have hdn := isDigit_nat c
        rw [hdg] at hdn
        simpa using hdn
      have hst : numV (L.take (k + 1)) = 10 * numV (L.take k) + (c.toNat - 48) := by
        rw [List.take_add_one, ho]
        exact numV_step _ _
      by_cases hbig : 9007199254740991 < numV (L.take (k + 1))
      · have HV := Lib.hid (numI_big hbig)
        generalize numV (L.take (k + 1)) = m at hst hbig
        generalize numV (L.take k) = n at hst hn
        have hd1 : ((c.toNat : Int) - 48) = ((c.toNat - 48 : Nat) : Int) := by omega
        have hd2 : c.toNat - 48 < 10 := by omega
        generalize c.toNat - 48 = d at hst hd1 hd2
        subst hst
        clear ho hdg
        go_wp2_with fail
        all_goals
          first
            | (exfalso; omega)
            | (go_ret
               exact ⟨ret_int HV.out.symm, rfl⟩)
      · have HST := Lib.hid hst
        generalize numV (L.take k) = n at hst hn HST
        have hb2 : 10 * n + (c.toNat - 48) ≤ 9007199254740991 := by omega
        have hd1 : ((c.toNat : Int) - 48) = ((c.toNat - 48 : Nat) : Int) := by omega
        have hd2 : c.toNat - 48 < 10 := by omega
        generalize c.toNat - 48 = d at hb2 hd1 hd2 HST
        clear ho hdg hst hbig
        go_wp2_with fail
        all_goals
          first
            | (exfalso; omega)
            | (go_round
               case rel => exact ⟨k + 1, hlt, by go_num, by rw [HST.out]; go_num, by rw [HST.out]; exact hb2⟩
               case measure => simp [intOf]; omega)
    · obtain rfl : k = L.length := by omega
      rw [List.take_length] at hn ⊢
      have HV := Lib.hid (numI_ok hn)
      go_wp2_with fail
      go_ret
      exact ⟨ret_int HV.out.symm, rfl⟩

end Go.Proofs.YtlkpiigdmmhkpaaGreatDoor
