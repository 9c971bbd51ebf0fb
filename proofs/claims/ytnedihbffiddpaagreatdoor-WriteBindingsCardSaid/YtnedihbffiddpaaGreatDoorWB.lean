/- Bytes in memory; strings out of bytes. -/
import Derived.Test.YtnedihbffiddpaaGreatDoorTok
import Derived.Test.YtnedihbffiddpaaGreatDoorT09
import Derived.Test.YtnedihbffiddpaaGreatDoorRow
import Derived.Laws.BytesArg
import Derived.Laws.IdiomStrings
import Derived.Lib.ConvBytes
import Derived.OwnWalk
namespace Go.Proofs.YtnedihbffiddpaaGreatDoor
open Go.RowKit Go.El

theorem ext_box (w : World) (o : Obj) : Ext w (w.alloc o) := (Ext.refl w).alloc o
def u8V (c : UInt8) : Value := .int .u8 (c.toNat : Int)
/-- A slice of bytes that reads as these. -/
def BytesAt (w : World) (A : Option Addr) (B : List UInt8) : Prop := El.Src w A B.length 1 (B.map u8V)
theorem BytesAt.ext {w w' : World} {A : Option Addr} {B : List UInt8} (h : BytesAt w A B) (x : Ext w w') : BytesAt w' A B := El.Src.ext h x
theorem bytes_at {w : World} {A : Option Addr} {B : List UInt8} (h : BytesAt w A B) {k : Nat} (hk : k < B.length) : ∃ b off, A = some ⟨b, off, none⟩ ∧ ∀ j c, B[j]? = some c → w.cell? ⟨b, off + j, none⟩ = some (.int .u8 (c.toNat : Int)) := by
  obtain ⟨b, off, rfl, hc⟩ := El.Src.form h (by omega) (by omega)
  exact ⟨b, off, rfl, fun j c hj => hc j _ (by simp [hj, u8V])⟩

theorem u8_eq {c : UInt8} {n : Nat} (hn : n < 256) : ((c.toNat : Int) == (n : Int)) = decide (c = UInt8.ofNat n) := by
  rw [Bool.eq_iff_iff, decide_eq_true_iff, beq_iff_eq]
  constructor
  · intro h
    have : c.toNat = n := by omega
    rw [← this]; simp
  · rintro rfl
    simp
    omega

theorem u8_ne {c : UInt8} {n : Nat} (hn : n < 256) (h : c ≠ UInt8.ofNat n) : ((c.toNat : Int) == (n : Int)) = false := by
  rw [u8_eq hn]
  simpa using h

theorem u8_ne' {c : UInt8} {n : Nat} {z : Int} (hz : (n : Int) = z) (hn : n < 256) (h : c ≠ UInt8.ofNat n) : ((c.toNat : Int) == z) = false := by rw [← hz]; exact u8_ne hn h
/-- The string of these bytes. -/
def strB (l : List UInt8) : ByteArray := ⟨l.toArray⟩
theorem strB_size (l : List UInt8) : (strB l).size = l.length := by simp [strB, ByteArray.size]
theorem strB_toList (l : List UInt8) : (strB l).data.toList = l := by simp [strB]
theorem strB_mk (s : ByteArray) : strB s.data.toList = s := by simp [strB]

theorem conv_str {w : World} {A : Option Addr} {l : List UInt8} (c : Nat) (h : BytesAt w A l) : (convert 51 9 (.slice A l.length c)).run Tryz.prog w = .ok (.string (strB l)) w := by
  rcases A with _ | a
  · have hl : l = [] := by
      rcases l with _ | ⟨x, l⟩
      · rfl
      · obtain ⟨b, off, ha, _⟩ := bytes_at (k := 0) h (by simp)
        cases ha
    subst hl
    exact run_convert_bytes_nil w 51 5 Tryz.underlying51 Tryz.underlying5 _ _ 9 Tryz.underlying9
  · refine run_convert_bytes_back w 51 9 5 a c l Tryz.underlying51 Tryz.underlying5 Tryz.underlying9 fun j hj => ?_
    obtain ⟨b, off, ha, hc⟩ := bytes_at (k := j) h hj
    injection ha with ha
    subst ha
    have e : (⟨b, off, none⟩ : Addr).add j = ⟨b, off + j, none⟩ := by simp [Addr.add]
    rw [e]
    exact hc j _ (List.getElem?_eq_getElem hj)

/-- Part of these bytes. -/
theorem bytes_sub {w : World} {b off : Nat} {l : List UInt8} (h : BytesAt w (some ⟨b, off, none⟩) l) (i j : Nat) (hij : i ≤ j) (hj : j ≤ l.length) : BytesAt w (some ⟨b, off + i, none⟩) (sub l i j) := by
  have h1 := El.Src.drop (n := i) h (by omega)
  have h2 := El.Src.take (n := j - i) h1 (by omega)
  have e1 : (⟨b, off, none⟩ : Addr).add (i * 1) = ⟨b, off + i, none⟩ := by simp [Addr.add]
  have e2 : (sub l i j).length = j - i := by unfold sub; simp; omega
  unfold BytesAt
  rw [e2]
  rw [e1] at h2
  have e3 : ((l.map u8V).drop (i * 1)).take ((j - i) * 1) = (sub l i j).map u8V := by unfold sub; simp [List.map_drop, List.map_take]
  rw [e3] at h2
  exact h2
theorem sub_length {l : List UInt8} {i j : Nat} (hj : j ≤ l.length) : (sub l i j).length = j - i := by unfold sub; simp; omega

/-- Bytes that a call has gathered in a slice of its own. -/
structure GathB (X wr : World) (v : Value) (F : List UInt8) : Prop where
  own : wr.ownsRow 0 5 1 v F.length (F.map u8V)
  far : ∀ b, v.ownBlock = some b → X.heap.size ≤ b
  ext : Ext X wr
theorem GathB.start (X : World) : GathB X X (.slice none 0 0) [] := ⟨World.ownsRow_nil _ _ _ _, fun b hb => by simp [Value.ownBlock] at hb, Ext.refl _⟩
theorem GathB.go {X wr w' : World} {v : Value} {F : List UInt8} (h : GathB X wr v F) (x : Ext wr w') : GathB X w' v F := ⟨own_ext h.own x, h.far, h.ext.trans x⟩
theorem ext_mods {X V w' : World} {S : List Nat} (h : Ext X V) (hm : Mods S V w') (hS : ∀ k, k ∈ S → X.heap.size ≤ k) : Ext X w' := (Mods.step (S := []) (Mods.ext h) hm (fun x hx => .inr (hS x hx))).toExt (by simp)
theorem mem_ownL {v : Value} {k : Nat} (h : k ∈ ownL v) : v.ownBlock = some k := by simpa [ownL] using h
theorem GathB.step {X wr V w' : World} {v v' : Value} {F : List UInt8} {G : List UInt8} (h : GathB X wr v F) (x : Ext wr V) (ho : w'.ownsRow 0 5 1 v' (F.length + G.length) (F.map u8V ++ G.map u8V)) (hm : Mods (ownL v) V w') (hb : v'.ownBlock = v.ownBlock ∨ v'.ownBlock = some V.heap.size) : GathB X w' v' (F ++ G) := by
  refine ⟨?_, fun b hb' => ?_, ext_mods (h.ext.trans x) hm (fun k hk => h.far k (mem_ownL hk))⟩
  · rw [List.map_append, List.length_append]
    exact ho
  · rcases hb with e | e
    · exact h.far b (e.symm.trans hb')
    · rw [e] at hb'
      injection hb' with hb'
      subst hb'
      exact Nat.le_trans h.ext.size x.size
theorem GathB.slice {X wr : World} {v : Value} {F : List UInt8} (h : GathB X wr v F) : ∃ A c, v = .slice A F.length c ∧ BytesAt wr A F := by
  obtain ⟨A, c, rfl⟩ := own_value h.own
  exact ⟨A, c, rfl, El.Src.of_own h.own⟩
theorem u8_one (l : List UInt8) : ∀ u ∈ l.map u8V, u.oneCell' = true := by
  intro u hu
  obtain ⟨c, _, rfl⟩ := List.mem_map.1 hu
  rfl
theorem u8Info : (Tryz.prog.info? 5).map (fun i => (i.zero, i.size, i.bytes)) = some (some (.int .u8 0), 1, 1) := by kernel_rfl
theorem infoP {P : Program} {t : TypeId} {z : Option Value} {n b : Nat} (h : (P.info? t).map (fun i => (i.zero, i.size, i.bytes)) = some (z, n, b)) : ∃ i, P.info? t = some i ∧ i.zero = z ∧ i.size = n ∧ i.bytes = b := by
  cases hi : P.info? t with
  | none => rw [hi] at h; cases h
  | some i =>
    rw [hi] at h
    injection h with h
    injection h with h1 h2
    injection h2 with h2 h3
    exact ⟨i, rfl, h1, h2, h3⟩

theorem ext_bytes (w : World) (e : TypeId) (s : ByteArray) : Ext w (Lib.bytesWorld w e s) := by
  refine ⟨rfl, rfl, rfl, by rw [Lib.bytesWorld_size]; omega, fun k hk => Lib.bytesWorld_at_old w e s k hk⟩

theorem bytes_new (w : World) (s : ByteArray) : BytesAt (Lib.bytesWorld w 5 s) (some ⟨w.heap.size, 0, none⟩) s.data.toList := by
  refine ⟨by simp, fun _ => ⟨_, rfl, fun j u hj => ?_⟩⟩
  have hjl : j < s.size := by
    have := (List.getElem?_eq_some_iff.1 hj).1
    simpa using this
  have e : (⟨w.heap.size, 0, none⟩ : Addr).add j = ⟨w.heap.size, j, none⟩ := by simp [Addr.add]; omega
  rw [e, Lib.bytesWorld_cell w _ s j hjl]
  have hj2 : j < s.data.toList.length := by simpa using hjl
  rw [List.getElem?_map, List.getElem?_eq_getElem hj2] at hj
  injection hj with hj
  rw [← hj]
  simp only [List.getD, List.getElem?_eq_getElem hj2, Option.getD_some, u8V]

theorem own_heap {w : World} {base : Nat} {e : TypeId} {k : Nat} {v : Value} {n : Nat} {xs : List Value} {g : Nat} {t : TypeId} {cs : Array Value} {m : Nat × Nat} (h : w.ownsRow base e k v n xs) (hg : w.heap[g]? = some (.cells cs t m)) (ht : t ≠ e ∨ m ≠ (0, 0)) : g ∉ ownL v := by
  intro hm
  have hb := mem_ownL hm
  rcases h.2 with ⟨rfl, _⟩ | ⟨g', cap, cur, rfl, _, hc, _⟩
  · simp [Value.ownBlock] at hb
  · have e1 : g' = g := by simpa [Value.ownBlock] using hb
    subst e1
    rw [hg] at hc
    injection hc with hc
    injection hc with h1 h2 h3
    rcases ht with ht | ht
    · exact ht h2
    · exact ht h3
theorem str_app (a b : List UInt8) : (strB a) ++ (strB b) = strB (a ++ b) := by
  have h : ((strB a) ++ (strB b)).data.toList = a ++ b := by
    rw [ByteArray.data_append, Array.toList_append, strB_toList, strB_toList]
  rw [← strB_mk ((strB a) ++ (strB b)), h]

end Go.Proofs.YtnedihbffiddpaaGreatDoor
