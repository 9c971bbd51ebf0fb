/- Layer 8, the program: what package bytes answers; the scanner in memory; starts. -/
import Derived.Test.YtgjdajkkncdhmaaDoorLay
import Derived.Test.YtgjdajkkncdhmaaDoorTB
import Derived.Test.YtgjdajkkncdhmaaDoorT08
namespace Go.Proofs.YtgjdajkkncdhmaaDoor
open Go.RowKit Go.El

def intsB (l : List UInt8) : List Int := l.map fun c => (c.toNat : Int)
theorem intsB_len (l : List UInt8) : (intsB l).length = l.length := by simp [intsB]
theorem bytesOf_ints (l : List UInt8) : Lib.bytesOf (intsB l) = l := by
  unfold Lib.bytesOf intsB
  rw [List.map_map]
  conv => rhs; rw [← List.map_id l]
  apply List.map_congr_left
  intro c _
  simp
theorem intsB_range (l : List UInt8) : ∀ x ∈ intsB l, 0 ≤ x ∧ x < 256 := by
  intro x hx
  obtain ⟨c, _, rfl⟩ := List.mem_map.1 hx
  have := c.toNat_lt
  omega
theorem intsB_at {l : List UInt8} {i : Nat} (h : i < l.length) : (intsB l).getD i 0 = ((l[i]).toNat : Int) := by simp [intsB, List.getD, h]
theorem bytes_cells {w : World} {a : Addr} {l : List UInt8} (h : BytesAt w (some a) l) : ∀ i, i < l.length → w.cell? (a.add i) = some (.int .u8 ((intsB l).getD i 0)) := by
  intro i hi
  obtain ⟨b, off, ha, hc⟩ := bytes_at h hi
  injection ha with ha
  subst ha
  have e : (⟨b, off, none⟩ : Addr).add i = ⟨b, off + i, none⟩ := by simp [Addr.add]
  rw [e, intsB_at hi]
  exact hc i _ (List.getElem?_eq_getElem hi)
theorem bytes_in {w : World} {b off : Nat} {l : List UInt8} (h : BytesAt w (some ⟨b, off, none⟩) l) : Lib.BytesIn w (some ⟨b, off, none⟩) l.length (intsB l) := Lib.BytesIn.of_cells (bytes_cells h)

theorem hasPrefixB {w : World} {b off b2 off2 : Nat} {L M : List UInt8} (c d : Nat) (h : BytesAt w (some ⟨b, off, none⟩) L) (h2 : BytesAt w (some ⟨b2, off2, none⟩) M) (hc : L.length ≤ c) :
    Calls Tryd.prog 51 #[.slice (some ⟨b, off, none⟩) L.length c, .slice (some ⟨b2, off2, none⟩) M.length d] w fun e w' => e = .returned (.bool (M.isPrefixOf L)) ∧ w = w' := by
  have := Tryd.bytes_HasPrefix_all (some ⟨b, off, none⟩) (some ⟨b2, off2, none⟩) L.length c M.length d (intsB L) (intsB M) w (intsB_len L) (intsB_len M) hc (bytes_in h) (bytes_in h2)
  rw [bytesOf_ints, bytesOf_ints] at this
  refine this.mono ?_
  rintro e w' ⟨rfl, rfl⟩
  exact ⟨rfl, rfl⟩
theorem indexByteB {w : World} {a : Addr} {L : List UInt8} (c : Nat) (x : UInt8) (h : BytesAt w (some a) L) :
    Calls Tryd.prog 35 #[.slice (some a) L.length c, .int .u8 (x.toNat : Int)] w fun e w' => e = .returned (.int .i64 (Lib.indexByte L x)) ∧ w = w' := by
  have := Tryd.bytes_IndexByte_at a L.length c (intsB L) (x.toNat : Int) w (intsB_len L) (bytes_cells h)
  rw [bytesOf_ints] at this
  refine this.mono ?_
  rintro e w' ⟨rfl, rfl⟩
  exact ⟨by simp, rfl⟩
theorem indexB {w : World} {a a2 : Addr} {L M : List UInt8} (c d : Nat) (m : Int) (h : BytesAt w (some a) L) (h2 : BytesAt w (some a2) M) (hc : L.length ≤ c) (hL : L.length ≤ 70000) (hM : M.length ≤ 70000) (hm : w.cell? ⟨0, 0, none⟩ = some (.int .i64 m)) :
    Calls Tryd.prog 52 #[.slice (some a) L.length c, .slice (some a2) M.length d] w fun e w' => e = .returned (.int .i64 (Lib.index L M)) ∧ ∃ n, w' = w.drewN n := by
  have := Tryd.bytes_Index_at a a2 L.length c M.length d (intsB L) (intsB M) m w (intsB_len L) (intsB_len M) (intsB_range L) (intsB_range M) (bytes_cells h) (bytes_cells h2) hc (by omega) (by omega) hm
  rw [bytesOf_ints, bytesOf_ints] at this
  exact this

/-- The library's variables that are read. -/
structure Glob (w : World) : Prop where
  max : ∃ m, w.cell? ⟨0, 0, none⟩ = some (.int .i64 m)
  err : ∃ te pe, w.cell? ⟨3, 0, none⟩ = some (.iface te pe)
theorem Glob.ext {w w' : World} (h : Glob w) (x : Ext w w') : Glob w' := by
  obtain ⟨⟨m, hm⟩, te, pe, he⟩ := h
  exact ⟨⟨m, x.cell hm⟩, te, pe, x.cell he⟩
theorem Glob.mods {w w' : World} {S : List Nat} (h : Glob w) (x : Mods S w w') (h1 : 0 ∉ S) (h2 : 3 ∉ S) : Glob w' := by
  obtain ⟨⟨m, hm⟩, te, pe, he⟩ := h
  exact ⟨⟨m, x.cell hm h1⟩, te, pe, x.cell he h2⟩

/-- A scanner in memory: its text, its place. -/
structure ScAt (w : World) (sb b off cap : Nat) (B : List UInt8) (i : Nat) : Prop where
  blk : Blk w sb 53 #[.slice (some ⟨b, off, none⟩) B.length cap, .int .i64 (i : Int)]
  src : BytesAt w (some ⟨b, off, none⟩) B
  ne : b ≠ sb
  len : B.length ≤ 65536
  cap : B.length ≤ cap
  at_ : i ≤ B.length
  glob : Glob w
  n1 : 0 ≠ sb
  n2 : 3 ≠ sb
theorem ScAt.ext {w w' : World} {sb b off cap : Nat} {B : List UInt8} {i : Nat} (h : ScAt w sb b off cap B i) (x : Ext w w') : ScAt w' sb b off cap B i := ⟨h.blk.ext x, h.src.ext x, h.ne, h.len, h.cap, h.at_, h.glob.ext x, h.n1, h.n2⟩
theorem ScAt.move {w : World} {sb b off cap : Nat} {B : List UInt8} {i : Nat} (h : ScAt w sb b off cap B i) {j : Nat} (hj : j ≤ B.length) : ScAt (w.setCell ⟨sb, 1, none⟩ (.int .i64 (j : Int))) sb b off cap B j := by
  refine ⟨h.blk.set_ 1 _, ?_, h.ne, h.len, h.cap, hj, h.glob.mods (S := [sb]) ((Mods.refl [sb] w).setCell (.inl (by simp)) _) (by simpa using h.n1) (by simpa using h.n2), h.n1, h.n2⟩
  exact El.Src.mods h.src ((Mods.refl [sb] w).setCell (.inl (by simp)) _) (fun a ha => by injection ha with ha; subst ha; simpa using h.ne)
theorem ScAt.c0 {w : World} {sb b off cap : Nat} {B : List UInt8} {i : Nat} (h : ScAt w sb b off cap B i) : w.cell? ⟨sb, 0, none⟩ = some (.slice (some ⟨b, off, none⟩) B.length cap) := h.blk.cell 0
theorem ScAt.c1 {w : World} {sb b off cap : Nat} {B : List UInt8} {i : Nat} (h : ScAt w sb b off cap B i) : w.cell? ⟨sb, 1, none⟩ = some (.int .i64 (i : Int)) := h.blk.cell 1

/-- The bytes from a place on. -/
theorem bytes_drop {w : World} {b off : Nat} {l : List UInt8} (h : BytesAt w (some ⟨b, off, none⟩) l) (i : Nat) (hi : i ≤ l.length) : BytesAt w (some ⟨b, off + i, none⟩) (l.drop i) := by
  have h1 := El.Src.drop (n := i) h hi
  have e1 : (⟨b, off, none⟩ : Addr).add (i * 1) = ⟨b, off + i, none⟩ := by simp [Addr.add]
  unfold BytesAt
  rw [e1] at h1
  rw [List.length_drop, List.map_drop]
  simpa using h1

end Go.Proofs.YtgjdajkkncdhmaaDoor
