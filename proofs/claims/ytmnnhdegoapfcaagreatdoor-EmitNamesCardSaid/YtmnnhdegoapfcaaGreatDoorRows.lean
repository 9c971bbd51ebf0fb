/-
  NARROWER THAN 'FOR EVERY INPUT', by the rows' own cells (each row's printed sentence says how): EmitLists: laid · EmitCalls: loops, laid · EmitNames: loops, laid · EmitRight: loops, laid · InstrParses: laid.
  DERIVED. THE GIVEN ROWS OF THIS SEAT. 5 by the template 'for every input the law returns true; each argument reads behind the call as it read before'; 0 by the template 'total and deterministic' (their statements: YtmnnhdegoapfcaaGreatDoorTotals.lean).
  GIVEN WITH THE SEED: the statements are not yours to turn. If you find one false, say at which input.
  Laid BY PROGRAM, IN A SANDBOX (cutbox-rows.mjs): the forced cells as the released guide's own fill.sh prints them over the translation 0f42a7da7224f565… (all of the seat's roots in one cut). By AI agents, Wed Nov 11 2026. No macro, syntax, notation, axiom, sorry.
-/
import Derived.Test.YtmnnhdegoapfcaaGreatDoorChecked
import GoSem.Claim
import GoSem.ClaimJoined
import GoSem.ClaimMapViews
import Derived.JoinedTies
import Derived.KernelRfl
namespace Go.Proofs.YtmnnhdegoapfcaaGreatDoor
/- THE CELL 'sum', in the pinned program and in every row, IS THE sha256 OF THE DUMP (.gsa) THAT YtmnnhdegoapfcaaGreatDoorProg.lean LOADS. Nothing in Lean hashes anything: it is a label: what it is worth is what the hold of that sum in a sandbox is worth. -/
noncomputable def Tryz.pinned : Pinned := { name := "ytmnnhdegoapfcaagreatdoor", sum := "0f42a7da7224f56566cd5efd9637dd58629fa63a84b45d648fc796ff176523e0", checked := Tryz.checked }
namespace Rows
def none {H : Type} : Left H := { results := [], args := [] }

/- WHAT THE LISTED PACKAGE-LEVEL VARIABLES READ AS WHEN THE CALL BEGINS. Each datum BY PROGRAM (the guide's laid-datum.mjs) off the statement by which the dump's own 'gosem.cut.vars' lays the variable. In a bare row this is a premise. The card (YtmnnhdegoapfcaaGreatDoorCards.lean) ties it to the program's text. -/
def laid_math_bits_deBruijn32tab {H : Type} : DataW H := .agg [.lit (.int .u8 0), .lit (.int .u8 1), .lit (.int .u8 28), .lit (.int .u8 2), .lit (.int .u8 29), .lit (.int .u8 14), .lit (.int .u8 24), .lit (.int .u8 3), .lit (.int .u8 30), .lit (.int .u8 22), .lit (.int .u8 20), .lit (.int .u8 15), .lit (.int .u8 25), .lit (.int .u8 17), .lit (.int .u8 4), .lit (.int .u8 8), .lit (.int .u8 31), .lit (.int .u8 27), .lit (.int .u8 13), .lit (.int .u8 23), .lit (.int .u8 21), .lit (.int .u8 19), .lit (.int .u8 16), .lit (.int .u8 7), .lit (.int .u8 26), .lit (.int .u8 12), .lit (.int .u8 18), .lit (.int .u8 6), .lit (.int .u8 11), .lit (.int .u8 5), .lit (.int .u8 10), .lit (.int .u8 9)]
def laid_math_bits_deBruijn64tab {H : Type} : DataW H := .agg [.lit (.int .u8 0), .lit (.int .u8 1), .lit (.int .u8 56), .lit (.int .u8 2), .lit (.int .u8 57), .lit (.int .u8 49), .lit (.int .u8 28), .lit (.int .u8 3), .lit (.int .u8 61), .lit (.int .u8 58), .lit (.int .u8 42), .lit (.int .u8 50), .lit (.int .u8 38), .lit (.int .u8 29), .lit (.int .u8 17), .lit (.int .u8 4), .lit (.int .u8 62), .lit (.int .u8 47), .lit (.int .u8 59), .lit (.int .u8 36), .lit (.int .u8 45), .lit (.int .u8 43), .lit (.int .u8 51), .lit (.int .u8 22), .lit (.int .u8 53), .lit (.int .u8 39), .lit (.int .u8 33), .lit (.int .u8 30), .lit (.int .u8 24), .lit (.int .u8 18), .lit (.int .u8 12), .lit (.int .u8 5), .lit (.int .u8 63), .lit (.int .u8 55), .lit (.int .u8 48), .lit (.int .u8 27), .lit (.int .u8 60), .lit (.int .u8 41), .lit (.int .u8 37), .lit (.int .u8 16), .lit (.int .u8 46), .lit (.int .u8 35), .lit (.int .u8 44), .lit (.int .u8 21), .lit (.int .u8 52), .lit (.int .u8 32), .lit (.int .u8 23), .lit (.int .u8 11), .lit (.int .u8 54), .lit (.int .u8 26), .lit (.int .u8 40), .lit (.int .u8 15), .lit (.int .u8 34), .lit (.int .u8 20), .lit (.int .u8 31), .lit (.int .u8 10), .lit (.int .u8 25), .lit (.int .u8 14), .lit (.int .u8 19), .lit (.int .u8 9), .lit (.int .u8 13), .lit (.int .u8 8), .lit (.int .u8 7), .lit (.int .u8 6)]
def laid_internal_strconv_uint64pow10 {H : Type} : DataW H := .agg [.lit (.int .u64 1), .lit (.int .u64 10), .lit (.int .u64 100), .lit (.int .u64 1000), .lit (.int .u64 10000), .lit (.int .u64 100000), .lit (.int .u64 1000000), .lit (.int .u64 10000000), .lit (.int .u64 100000000), .lit (.int .u64 1000000000), .lit (.int .u64 10000000000), .lit (.int .u64 100000000000), .lit (.int .u64 1000000000000), .lit (.int .u64 10000000000000), .lit (.int .u64 100000000000000), .lit (.int .u64 1000000000000000), .lit (.int .u64 10000000000000000), .lit (.int .u64 100000000000000000), .lit (.int .u64 1000000000000000000), .lit (.int .u64 10000000000000000000)]
def laid_elenchus_instr_ops {H : Type} : DataW H := .agg [.agg [.lit (.string []), .lit (.int .i64 0)], .agg [.lit (.string [103, 101, 116, 95, 118, 97, 114]), .lit (.int .i64 3)], .agg [.lit (.string [103, 101, 116, 95, 118, 97, 108]), .lit (.int .i64 3)], .agg [.lit (.string [103, 101, 116, 95, 97, 116, 111, 109]), .lit (.int .i64 10)], .agg [.lit (.string [103, 101, 116, 95, 105, 110, 116]), .lit (.int .i64 18)], .agg [.lit (.string [103, 101, 116, 95, 115, 116, 114]), .lit (.int .i64 34)], .agg [.lit (.string [117, 110, 105, 95, 118, 97, 114]), .lit (.int .i64 1)], .agg [.lit (.string [117, 110, 105, 95, 118, 97, 108]), .lit (.int .i64 1)], .agg [.lit (.string [117, 110, 105, 95, 97, 116, 111, 109]), .lit (.int .i64 8)], .agg [.lit (.string [117, 110, 105, 95, 105, 110, 116]), .lit (.int .i64 16)], .agg [.lit (.string [112, 117, 116, 95, 118, 97, 114]), .lit (.int .i64 3)], .agg [.lit (.string [112, 117, 116, 95, 118, 97, 108]), .lit (.int .i64 3)], .agg [.lit (.string [112, 117, 116, 95, 97, 116, 111, 109]), .lit (.int .i64 10)], .agg [.lit (.string [112, 117, 116, 95, 105, 110, 116]), .lit (.int .i64 18)], .agg [.lit (.string [112, 117, 116, 95, 115, 116, 114]), .lit (.int .i64 34)], .agg [.lit (.string [115, 101, 116, 95, 118, 97, 114]), .lit (.int .i64 1)], .agg [.lit (.string [115, 101, 116, 95, 118, 97, 108]), .lit (.int .i64 1)], .agg [.lit (.string [115, 101, 116, 95, 97, 116, 111, 109]), .lit (.int .i64 8)], .agg [.lit (.string [115, 101, 116, 95, 105, 110, 116]), .lit (.int .i64 16)], .agg [.lit (.string [97, 108, 108, 111, 99]), .lit (.int .i64 128)], .agg [.lit (.string [100, 101, 97, 108, 108, 111, 99]), .lit (.int .i64 0)], .agg [.lit (.string [99, 97, 108, 108]), .lit (.int .i64 68)], .agg [.lit (.string [101, 120, 101, 99]), .lit (.int .i64 64)], .agg [.lit (.string [98, 111, 100, 121]), .lit (.int .i64 4)], .agg [.lit (.string [103, 111, 97, 108]), .lit (.int .i64 0)], .agg [.lit (.string [112, 114, 111, 99, 101, 101, 100]), .lit (.int .i64 0)], .agg [.lit (.string [108, 101, 118, 101, 108]), .lit (.int .i64 1)], .agg [.lit (.string [104, 101, 114, 101]), .lit (.int .i64 1)], .agg [.lit (.string [110, 101, 99, 107]), .lit (.int .i64 0)], .agg [.lit (.string [99, 117, 116]), .lit (.int .i64 1)], .agg [.lit (.string [102, 97, 105, 108]), .lit (.int .i64 0)]]
def laid_strconv_ErrRange {H : Type} : DataW H := .iface "*errors.errorString" (.ptr (.agg [.lit (.string [118, 97, 108, 117, 101, 32, 111, 117, 116, 32, 111, 102, 32, 114, 97, 110, 103, 101])]))
def laid_strconv_ErrSyntax {H : Type} : DataW H := .iface "*errors.errorString" (.ptr (.agg [.lit (.string [105, 110, 118, 97, 108, 105, 100, 32, 115, 121, 110, 116, 97, 120])]))

/-- 'elenchuslaw17.EmitLists': WHATEVER THE INPUT: true; the input reads as it did. -/
def emitListsSpec : ChangeSpec := { name := "emitLists", fn := fun _ => fun
  | [d] => { results := [.lit (.bool true)], args := [d] }
  | _ => none }
def emitListsRow : OpenClaim := { program := "ytmnnhdegoapfcaagreatdoor", sum := "0f42a7da7224f56566cd5efd9637dd58629fa63a84b45d648fc796ff176523e0", func := "elenchus/elenchuslaw17.EmitLists", spec := "emitLists", inPlace := ["internal/bytealg.IndexByteString", "internal/abi.NoEscape", "internal/bytealg.MakeNoZero"], unfollowed := true, recurses := true, named := ["elenchus/instr.ops", "internal/strconv.uint64pow10", "math/bits.deBruijn32tab", "math/bits.deBruijn64tab"], apart := false, laid := [("math/bits.deBruijn32tab", laid_math_bits_deBruijn32tab), ("math/bits.deBruijn64tab", laid_math_bits_deBruijn64tab), ("internal/strconv.uint64pow10", laid_internal_strconv_uint64pow10), ("elenchus/instr.ops", laid_elenchus_instr_ops)] }
def EmitListsSaid : Prop := emitListsRow.holds Tryz.pinned (OpenSpec.ofChange emitListsSpec)

/-- ITS FALSE NEIGHBOUR: 'it returns false'. Refute it at one input. -/
def emitListsWrong : ChangeSpec := { name := "emitLists", fn := fun _ => fun
  | [d] => { results := [.lit (.bool false)], args := [d] }
  | _ => none }
def EmitListsWrongFalsely : Prop := emitListsRow.holds Tryz.pinned (OpenSpec.ofChange emitListsWrong)

/-- 'elenchuslaw17.EmitCalls': WHATEVER THE INPUT: true; the input reads as it did. -/
def emitCallsSpec : ChangeSpec := { name := "emitCalls", fn := fun _ => fun
  | [d] => { results := [.lit (.bool true)], args := [d] }
  | _ => none }
def emitCallsRow : OpenClaim := { program := "ytmnnhdegoapfcaagreatdoor", sum := "0f42a7da7224f56566cd5efd9637dd58629fa63a84b45d648fc796ff176523e0", func := "elenchus/elenchuslaw17.EmitCalls", spec := "emitCalls", inPlace := ["internal/bytealg.IndexByteString", "internal/abi.NoEscape", "internal/bytealg.MakeNoZero"], unfollowed := true, recurses := true, named := ["elenchus/instr.ops", "internal/strconv.uint64pow10", "math/bits.deBruijn32tab", "math/bits.deBruijn64tab"], loops := true, apart := false, laid := [("math/bits.deBruijn32tab", laid_math_bits_deBruijn32tab), ("math/bits.deBruijn64tab", laid_math_bits_deBruijn64tab), ("internal/strconv.uint64pow10", laid_internal_strconv_uint64pow10), ("elenchus/instr.ops", laid_elenchus_instr_ops)] }
def EmitCallsSaid : Prop := emitCallsRow.holds Tryz.pinned (OpenSpec.ofChange emitCallsSpec)

/-- ITS FALSE NEIGHBOUR: 'it returns false'. Refute it at one input. -/
def emitCallsWrong : ChangeSpec := { name := "emitCalls", fn := fun _ => fun
  | [d] => { results := [.lit (.bool false)], args := [d] }
  | _ => none }
def EmitCallsWrongFalsely : Prop := emitCallsRow.holds Tryz.pinned (OpenSpec.ofChange emitCallsWrong)

/-- 'elenchuslaw17.EmitNames': WHATEVER THE INPUT: true; the input reads as it did. -/
def emitNamesSpec : ChangeSpec := { name := "emitNames", fn := fun _ => fun
  | [d1, d2] => { results := [.lit (.bool true)], args := [d1, d2] }
  | _ => none }
def emitNamesRow : OpenClaim := { program := "ytmnnhdegoapfcaagreatdoor", sum := "0f42a7da7224f56566cd5efd9637dd58629fa63a84b45d648fc796ff176523e0", func := "elenchus/elenchuslaw17.EmitNames", spec := "emitNames", inPlace := ["internal/bytealg.IndexByteString", "internal/abi.NoEscape", "internal/bytealg.MakeNoZero"], unfollowed := true, recurses := true, named := ["elenchus/instr.ops", "internal/strconv.uint64pow10", "math/bits.deBruijn32tab", "math/bits.deBruijn64tab"], loops := true, apart := false, laid := [("math/bits.deBruijn32tab", laid_math_bits_deBruijn32tab), ("math/bits.deBruijn64tab", laid_math_bits_deBruijn64tab), ("internal/strconv.uint64pow10", laid_internal_strconv_uint64pow10), ("elenchus/instr.ops", laid_elenchus_instr_ops)] }
def EmitNamesSaid : Prop := emitNamesRow.holds Tryz.pinned (OpenSpec.ofChange emitNamesSpec)

/-- ITS FALSE NEIGHBOUR: 'it returns false'. Refute it at one input. -/
def emitNamesWrong : ChangeSpec := { name := "emitNames", fn := fun _ => fun
  | [d1, d2] => { results := [.lit (.bool false)], args := [d1, d2] }
  | _ => none }
def EmitNamesWrongFalsely : Prop := emitNamesRow.holds Tryz.pinned (OpenSpec.ofChange emitNamesWrong)

/-- 'elenchuslaw17.EmitRight': WHATEVER THE INPUT: true; the input reads as it did. -/
def emitRightSpec : ChangeSpec := { name := "emitRight", fn := fun _ => fun
  | [d] => { results := [.lit (.bool true)], args := [d] }
  | _ => none }
def emitRightRow : OpenClaim := { program := "ytmnnhdegoapfcaagreatdoor", sum := "0f42a7da7224f56566cd5efd9637dd58629fa63a84b45d648fc796ff176523e0", func := "elenchus/elenchuslaw17.EmitRight", spec := "emitRight", inPlace := ["internal/bytealg.IndexByteString", "internal/abi.NoEscape", "internal/bytealg.MakeNoZero"], unfollowed := true, recurses := true, named := ["elenchus/instr.ops", "internal/strconv.uint64pow10", "math/bits.deBruijn32tab", "math/bits.deBruijn64tab"], loops := true, apart := false, laid := [("math/bits.deBruijn32tab", laid_math_bits_deBruijn32tab), ("math/bits.deBruijn64tab", laid_math_bits_deBruijn64tab), ("internal/strconv.uint64pow10", laid_internal_strconv_uint64pow10), ("elenchus/instr.ops", laid_elenchus_instr_ops)] }
def EmitRightSaid : Prop := emitRightRow.holds Tryz.pinned (OpenSpec.ofChange emitRightSpec)

/-- ITS FALSE NEIGHBOUR: 'it returns false'. Refute it at one input. -/
def emitRightWrong : ChangeSpec := { name := "emitRight", fn := fun _ => fun
  | [d] => { results := [.lit (.bool false)], args := [d] }
  | _ => none }
def EmitRightWrongFalsely : Prop := emitRightRow.holds Tryz.pinned (OpenSpec.ofChange emitRightWrong)

/-- 'elenchuslaw16.InstrParses': WHATEVER THE INPUT: true; the input reads as it did. -/
def instrParsesSpec : ChangeSpec := { name := "instrParses", fn := fun _ => fun
  | [d] => { results := [.lit (.bool true)], args := [d] }
  | _ => none }
def instrParsesRow : OpenClaim := { program := "ytmnnhdegoapfcaagreatdoor", sum := "0f42a7da7224f56566cd5efd9637dd58629fa63a84b45d648fc796ff176523e0", func := "elenchus/elenchuslaw16.InstrParses", spec := "instrParses", inPlace := ["internal/bytealg.IndexByteString", "internal/bytealg.IndexString", "internal/bytealg.IndexByte", "internal/bytealg.Index", "internal/abi.NoEscape", "internal/bytealg.MakeNoZero"], unfollowed := true, recurses := true, named := ["elenchus/instr.ops", "internal/bytealg.MaxLen", "strconv.ErrSyntax", "strconv.ErrRange", "internal/strconv.uint64pow10", "math/bits.deBruijn32tab", "math/bits.deBruijn64tab"], apart := false, laid := [("math/bits.deBruijn32tab", laid_math_bits_deBruijn32tab), ("math/bits.deBruijn64tab", laid_math_bits_deBruijn64tab), ("internal/strconv.uint64pow10", laid_internal_strconv_uint64pow10), ("strconv.ErrRange", laid_strconv_ErrRange), ("strconv.ErrSyntax", laid_strconv_ErrSyntax), ("elenchus/instr.ops", laid_elenchus_instr_ops)] }
def InstrParsesSaid : Prop := instrParsesRow.holds Tryz.pinned (OpenSpec.ofChange instrParsesSpec)

/-- ITS FALSE NEIGHBOUR: 'it returns false'. Refute it at one input. -/
def instrParsesWrong : ChangeSpec := { name := "instrParses", fn := fun _ => fun
  | [d] => { results := [.lit (.bool false)], args := [d] }
  | _ => none }
def InstrParsesWrongFalsely : Prop := instrParsesRow.holds Tryz.pinned (OpenSpec.ofChange instrParsesWrong)

/- THE SECOND FORM. 'bulk': how many values and letters a reading holds, each counted each time it is reached (what is shared counts as often as it is met; a slice's spare places count too). A statement '..UptoSaid' is the law's where the arguments, and the package variables that the reading takes, are together of bulk at most 1048576: NARROWER than '..Said'. Prove '..Said' where nothing that the law and all that it calls make is longer than what came in: it says more and counts as full. Else prove '..UptoSaid'. A law counts once. -/
mutual
def uptoBulk {H : Type} : DataW H → Nat
  | .lit (.string bytes) => bytes.length + 1
  | .lit _ => 1
  | .nil => 1
  | .ptr d => uptoBulk d + 1
  | .slice elems spare => uptoBulkAll elems + uptoBulkAll spare + 1
  | .agg parts => uptoBulkAll parts + 1
  | .iface _ d => uptoBulk d + 1
  | .map entries => uptoBulkEntries entries + 1
  | .held _ => 1
def uptoBulkAll {H : Type} : List (DataW H) → Nat
  | [] => 0
  | d :: r => uptoBulk d + uptoBulkAll r
def uptoBulkEntries {H : Type} : List (Lit × DataW H) → Nat
  | [] => 0
  | x :: r => uptoBulkEntry x + uptoBulkEntries r
def uptoBulkEntry {H : Type} : Lit × DataW H → Nat
  | (.string bytes, d) => bytes.length + uptoBulk d + 1
  | (_, d) => uptoBulk d + 1
 end
def uptoSmall : (H : Type) → List (DataW H) → Bool := fun _ ds => decide (uptoBulkAll ds ≤ 1048576)
def OpenSpec.upto (s : _root_.Go.ChangeSpec) : _root_.Go.OpenSpec := { _root_.Go.OpenSpec.ofChange s with cond := some uptoSmall }

/-- 'elenchuslaw17.EmitLists', WHERE WHAT IT READS IS OF BULK AT MOST 1048576: true; the input reads as it did. -/
def emitListsUptoRow : OpenClaim := { program := "ytmnnhdegoapfcaagreatdoor", sum := "0f42a7da7224f56566cd5efd9637dd58629fa63a84b45d648fc796ff176523e0", func := "elenchus/elenchuslaw17.EmitLists", spec := "emitLists", inPlace := ["internal/bytealg.IndexByteString", "internal/abi.NoEscape", "internal/bytealg.MakeNoZero"], unfollowed := true, recurses := true, named := ["elenchus/instr.ops", "internal/strconv.uint64pow10", "math/bits.deBruijn32tab", "math/bits.deBruijn64tab"], apart := false, laid := [("math/bits.deBruijn32tab", laid_math_bits_deBruijn32tab), ("math/bits.deBruijn64tab", laid_math_bits_deBruijn64tab), ("internal/strconv.uint64pow10", laid_internal_strconv_uint64pow10), ("elenchus/instr.ops", laid_elenchus_instr_ops)], narrowed := true }
def EmitListsUptoSaid : Prop := emitListsUptoRow.holds Tryz.pinned (OpenSpec.upto emitListsSpec)

/-- 'elenchuslaw17.EmitCalls', WHERE WHAT IT READS IS OF BULK AT MOST 1048576: true; the input reads as it did. -/
def emitCallsUptoRow : OpenClaim := { program := "ytmnnhdegoapfcaagreatdoor", sum := "0f42a7da7224f56566cd5efd9637dd58629fa63a84b45d648fc796ff176523e0", func := "elenchus/elenchuslaw17.EmitCalls", spec := "emitCalls", inPlace := ["internal/bytealg.IndexByteString", "internal/abi.NoEscape", "internal/bytealg.MakeNoZero"], unfollowed := true, recurses := true, named := ["elenchus/instr.ops", "internal/strconv.uint64pow10", "math/bits.deBruijn32tab", "math/bits.deBruijn64tab"], loops := true, apart := false, laid := [("math/bits.deBruijn32tab", laid_math_bits_deBruijn32tab), ("math/bits.deBruijn64tab", laid_math_bits_deBruijn64tab), ("internal/strconv.uint64pow10", laid_internal_strconv_uint64pow10), ("elenchus/instr.ops", laid_elenchus_instr_ops)], narrowed := true }
def EmitCallsUptoSaid : Prop := emitCallsUptoRow.holds Tryz.pinned (OpenSpec.upto emitCallsSpec)

/-- 'elenchuslaw17.EmitNames', WHERE WHAT IT READS IS OF BULK AT MOST 1048576: true; the input reads as it did. -/
def emitNamesUptoRow : OpenClaim := { program := "ytmnnhdegoapfcaagreatdoor", sum := "0f42a7da7224f56566cd5efd9637dd58629fa63a84b45d648fc796ff176523e0", func := "elenchus/elenchuslaw17.EmitNames", spec := "emitNames", inPlace := ["internal/bytealg.IndexByteString", "internal/abi.NoEscape", "internal/bytealg.MakeNoZero"], unfollowed := true, recurses := true, named := ["elenchus/instr.ops", "internal/strconv.uint64pow10", "math/bits.deBruijn32tab", "math/bits.deBruijn64tab"], loops := true, apart := false, laid := [("math/bits.deBruijn32tab", laid_math_bits_deBruijn32tab), ("math/bits.deBruijn64tab", laid_math_bits_deBruijn64tab), ("internal/strconv.uint64pow10", laid_internal_strconv_uint64pow10), ("elenchus/instr.ops", laid_elenchus_instr_ops)], narrowed := true }
def EmitNamesUptoSaid : Prop := emitNamesUptoRow.holds Tryz.pinned (OpenSpec.upto emitNamesSpec)

/-- 'elenchuslaw17.EmitRight', WHERE WHAT IT READS IS OF BULK AT MOST 1048576: true; the input reads as it did. -/
def emitRightUptoRow : OpenClaim := { program := "ytmnnhdegoapfcaagreatdoor", sum := "0f42a7da7224f56566cd5efd9637dd58629fa63a84b45d648fc796ff176523e0", func := "elenchus/elenchuslaw17.EmitRight", spec := "emitRight", inPlace := ["internal/bytealg.IndexByteString", "internal/abi.NoEscape", "internal/bytealg.MakeNoZero"], unfollowed := true, recurses := true, named := ["elenchus/instr.ops", "internal/strconv.uint64pow10", "math/bits.deBruijn32tab", "math/bits.deBruijn64tab"], loops := true, apart := false, laid := [("math/bits.deBruijn32tab", laid_math_bits_deBruijn32tab), ("math/bits.deBruijn64tab", laid_math_bits_deBruijn64tab), ("internal/strconv.uint64pow10", laid_internal_strconv_uint64pow10), ("elenchus/instr.ops", laid_elenchus_instr_ops)], narrowed := true }
def EmitRightUptoSaid : Prop := emitRightUptoRow.holds Tryz.pinned (OpenSpec.upto emitRightSpec)

/-- 'elenchuslaw16.InstrParses', WHERE WHAT IT READS IS OF BULK AT MOST 1048576: true; the input reads as it did. -/
def instrParsesUptoRow : OpenClaim := { program := "ytmnnhdegoapfcaagreatdoor", sum := "0f42a7da7224f56566cd5efd9637dd58629fa63a84b45d648fc796ff176523e0", func := "elenchus/elenchuslaw16.InstrParses", spec := "instrParses", inPlace := ["internal/bytealg.IndexByteString", "internal/bytealg.IndexString", "internal/bytealg.IndexByte", "internal/bytealg.Index", "internal/abi.NoEscape", "internal/bytealg.MakeNoZero"], unfollowed := true, recurses := true, named := ["elenchus/instr.ops", "internal/bytealg.MaxLen", "strconv.ErrSyntax", "strconv.ErrRange", "internal/strconv.uint64pow10", "math/bits.deBruijn32tab", "math/bits.deBruijn64tab"], apart := false, laid := [("math/bits.deBruijn32tab", laid_math_bits_deBruijn32tab), ("math/bits.deBruijn64tab", laid_math_bits_deBruijn64tab), ("internal/strconv.uint64pow10", laid_internal_strconv_uint64pow10), ("strconv.ErrRange", laid_strconv_ErrRange), ("strconv.ErrSyntax", laid_strconv_ErrSyntax), ("elenchus/instr.ops", laid_elenchus_instr_ops)], narrowed := true }
def InstrParsesUptoSaid : Prop := instrParsesUptoRow.holds Tryz.pinned (OpenSpec.upto instrParsesSpec)

end Rows
end Go.Proofs.YtmnnhdegoapfcaaGreatDoor
