/- Layer 8, the program: the walks of alone, ends, integer. -/
import Derived.Test.YtgjdajkkncdhmaaDoorPT9
import Derived.Test.YtgjdajkkncdhmaaDoorRT9
namespace Go.Proofs.YtgjdajkkncdhmaaDoor
open Go.RowKit Go.El

/-- The blocks that a scanner stands on are older than a call. -/
structure Old (w : World) (sb b : Nat) : Prop where
  ls : sb < w.heap.size
  lb : b < w.heap.size
  lm : 0 < w.heap.size
  le : 3 < w.heap.size
theorem ScIn.set {w wr : World} {sb b off cap : Nat} {B : List UInt8} {k : Nat} (h : ScIn w wr sb b off cap B k) (o : Old w sb b) {p : Addr} (hp : w.heap.size ≤ p.block) (v : Value) : ScIn w (wr.setCell p v) sb b off cap B k := by
  have hm : Mods [p.block] wr (wr.setCell p v) := (Mods.refl _ wr).setCell (.inl (by simp)) v
  have hno : ∀ y, y < w.heap.size → y ∉ [p.block] := fun y hy hm => by rw [List.mem_singleton] at hm; omega
  exact ⟨h.sc.far hm (hno _ o.ls) (hno _ o.lb) (hno _ o.lm) (hno _ o.le), Mods.step h.mods hm (fun y hy => .inr (by rw [List.mem_singleton] at hy; omega))⟩
theorem ScIn.set5 {w wr : World} {sb b off cap : Nat} {B : List UInt8} {k : Nat} (h : ScIn w wr sb b off cap B k) (o : Old w sb b) {g : Nat} (hg : w.heap.size ≤ g) (a' b' c' d' e' : Value) : ScIn w (((((wr.setCell ⟨g, 0, none⟩ a').setCell ⟨g, 1, none⟩ b').setCell ⟨g, 2, none⟩ c').setCell ⟨g, 3, none⟩ d').setCell ⟨g, 4, none⟩ e') sb b off cap B k :=
  ((((h.set o (p := ⟨g, 0, none⟩) hg a').set o (p := ⟨g, 1, none⟩) hg b').set o (p := ⟨g, 2, none⟩) hg c').set o (p := ⟨g, 3, none⟩) hg d').set o (p := ⟨g, 4, none⟩) hg e'
/-- A zero token's block, behind a scanner's moves. -/
theorem zero_in {w w' : World} {sb : Nat} (hs : sb < w.heap.size) (hm : Mods [sb] (w.alloc (.cells #[.int .i64 0, .string ⟨#[]⟩, .int .i64 0, .int .i64 0, .bool false] 30)) w') : Blk w' w.heap.size 30 #[.int .i64 0, .string ⟨#[]⟩, .int .i64 0, .int .i64 0, .bool false] :=
  (Blk.new w 30 _).mods hm (by simp; omega)

set_option maxRecDepth 100000 in
set_option maxHeartbeats 4000000 in
theorem alone_any (sb b off cap : Nat) (B : List UInt8) (i : Nat) (c : UInt8) (w : World) (h : ScAt w sb b off cap B i) (ho : B[i]? = some c) :
    Calls Tryd.prog 39 #[.pointer (some ⟨sb, 0, none⟩)] w fun e w' => e = .returned (.string (strB [c])) ∧ ScIn w w' sb b off cap B (i + 1) := by
  have d1 := h.c0
  have d2 := h.c1
  have f2 := h.frozen
  have hlt : i < B.length := (List.getElem?_eq_some_iff.1 ho).1
  have hcp := h.cap
  have hlen := h.len
  have HS := Lib.hid ((ScIn.start h).to (j := i + 1) (v := (i : Int) + 1) hlt (by omega))
  have HO := Lib.hid ho
  clear h ho
  go_enter Tryd.func39, Tryd.ntmps39
  go_upto_region 2 with fail
  refine wp_abs (fun V => ScIn w V sb b off cap B (i + 1)) HS.out ?_
  clear d1 d2 f2 HS
  rintro V hV
  have d1 := hV.sc.c0
  have d2 := hV.sc.c1
  have hcv := fun n => (hV.drewN n).sc.conv i (i + 1) (by omega) hlt
  rw [sub_one HO.out] at hcv
  have e1 : i + 1 - i = 1 := by omega
  rw [e1] at hcv
  have hci : ¬ cap = i := by omega
  have hm1 : ((i + 1 : Nat) : Int) - 1 = (i : Int) := by omega
  have hm2 : (i : Int) + 1 - 1 = (i : Int) := by omega
  have hw1 : IntKind.i64.wrap (i : Int) = (i : Int) := IntWalk.i64_in _ (by omega)
  have hce : i + 1 ≤ cap := by omega
  generalize hgs : strB [c] = z at hcv
  have HZ := Lib.hid hgs
  have HV := Lib.hid hV
  clear hgs hV
  go_quiet (fail)
  go_wp2_with fail
  go_ret
  exact ⟨by rw [HZ.out]; rfl, HV.out.drewN _⟩

end Go.Proofs.YtgjdajkkncdhmaaDoor
