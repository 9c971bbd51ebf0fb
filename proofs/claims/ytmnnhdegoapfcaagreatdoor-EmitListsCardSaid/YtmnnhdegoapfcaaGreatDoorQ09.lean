/- Layer 16: the walk of first. -/
import Derived.Test.YtmnnhdegoapfcaaGreatDoorQ04
import Derived.Test.YtmnnhdegoapfcaaGreatDoorQ03
import Derived.Lib.SmallJoins
import Derived.Test.YtmnnhdegoapfcaaGreatDoorQ05
import Derived.Test.YtmnnhdegoapfcaaGreatDoorQ02
import Derived.Lib.QuietBelow
import Derived.WalkMore
import Derived.Deep.RegionLaw
namespace Go.Proofs.YtmnnhdegoapfcaaGreatDoor
open Go.RowKit Go.El
def InsBlk (w : World) (b : Nat) (i : Ins) : Prop := Blk w b 25 #[.int .i64 i.op, .string i.s, .int .i64 i.n, .int .i64 i.v, .int .i64 i.a]
theorem InsBlk.ext {w w' : World} {b : Nat} {i : Ins} (h : InsBlk w b i) (x : Ext w w') : InsBlk w' b i := Blk.ext h x
theorem InsBlk.c0 {w : World} {b : Nat} {i : Ins} (h : InsBlk w b i) : w.cell? ⟨b, 0, none⟩ = some (.int .i64 i.op) := Blk.cell h 0
theorem InsBlk.c1 {w : World} {b : Nat} {i : Ins} (h : InsBlk w b i) : w.cell? ⟨b, 1, none⟩ = some (.string i.s) := Blk.cell h 1
theorem InsBlk.c2 {w : World} {b : Nat} {i : Ins} (h : InsBlk w b i) : w.cell? ⟨b, 2, none⟩ = some (.int .i64 i.n) := Blk.cell h 2
theorem InsBlk.c3 {w : World} {b : Nat} {i : Ins} (h : InsBlk w b i) : w.cell? ⟨b, 3, none⟩ = some (.int .i64 i.v) := Blk.cell h 3
theorem InsBlk.c4 {w : World} {b : Nat} {i : Ins} (h : InsBlk w b i) : w.cell? ⟨b, 4, none⟩ = some (.int .i64 i.a) := Blk.cell h 4
theorem InsBlk.fz {w : World} {b : Nat} {i : Ins} (h : InsBlk w b i) (k : Nat) : w.frozen? ⟨b, k, none⟩ = false := Blk.frozen h k
theorem InsBlk.setS {w : World} {b : Nat} {i : Ins} (h : InsBlk w b i) (x : ByteArray) : InsBlk (w.setCell ⟨b, 1, none⟩ (.string x)) b { i with s := x } := Blk.set_ h 1 _
theorem InsBlk.setN {w : World} {b : Nat} {i : Ins} (h : InsBlk w b i) (x : Int) : InsBlk (w.setCell ⟨b, 2, none⟩ (.int .i64 x)) b { i with n := x } := Blk.set_ h 2 _
end Go.Proofs.YtmnnhdegoapfcaaGreatDoor

/- Layer 16: the walks of the search of an operation. -/
namespace Go.Proofs.YtmnnhdegoapfcaaGreatDoor
open Go.RowKit Go.El
theorem ret_bB {a b : Bool} (h : a = b) : Ending.returned (.bool a) = .returned (.bool b) := by rw [h]
end Go.Proofs.YtmnnhdegoapfcaaGreatDoor
