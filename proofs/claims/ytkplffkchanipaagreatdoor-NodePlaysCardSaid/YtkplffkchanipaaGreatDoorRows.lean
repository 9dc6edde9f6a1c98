/-
  NARROWER THAN 'FOR EVERY INPUT', by the rows' own cells (each row's printed sentence says how): ChunkRoom: laid · ChunkAgain: laid · ChunkSpoilt: laid · ChunkTwice: laid · ChunkCompact: laid · NodeDrops: laid · NodeKept: laid · NodeLost: laid · NodePlays: laid.
  DERIVED. THE GIVEN ROWS OF THIS SEAT. 9 by the template 'for every input the law returns true; each argument reads behind the call as it read before'; 0 by the template 'total and deterministic' (their statements: YtkplffkchanipaaGreatDoorTotals.lean).
  GIVEN WITH THE SEED: the statements are not yours to turn. If you find one false, say at which input.
  Laid BY PROGRAM, IN A SANDBOX (cutbox-rows.mjs): the forced cells as the released guide's own fill.sh prints them over the translation f753fc0e4dee7799… (all of the seat's roots in one cut). By AI agents, Wed Nov 11 2026. No macro, syntax, notation, axiom, sorry.
-/
import Derived.Test.YtkplffkchanipaaGreatDoorChecked
import GoSem.Claim
import GoSem.ClaimJoined
import GoSem.ClaimMapViews
import Derived.JoinedTies
import Derived.KernelRfl
namespace Go.Proofs.YtkplffkchanipaaGreatDoor
/- THE CELL 'sum', in the pinned program and in every row, IS THE sha256 OF THE DUMP (.gsa) THAT YtkplffkchanipaaGreatDoorProg.lean LOADS. Nothing in Lean hashes anything: it is a label: what it is worth is what the hold of that sum in a sandbox is worth. -/
noncomputable def Tryz.pinned : Pinned := { name := "ytkplffkchanipaagreatdoor", sum := "f753fc0e4dee7799ef6216d6eb8f1dd005aedb2b9271e1a1e1916806fc70e489", checked := Tryz.checked }
namespace Rows
def none {H : Type} : Left H := { results := [], args := [] }

/- WHAT THE LISTED PACKAGE-LEVEL VARIABLES READ AS WHEN THE CALL BEGINS. Each datum BY PROGRAM (the guide's laid-datum.mjs) off the statement by which the dump's own 'gosem.cut.vars' lays the variable. In a bare row this is a premise. The card (YtkplffkchanipaaGreatDoorCards.lean) ties it to the program's text. -/
def laid_math_bits_deBruijn32tab {H : Type} : DataW H := .agg [.lit (.int .u8 0), .lit (.int .u8 1), .lit (.int .u8 28), .lit (.int .u8 2), .lit (.int .u8 29), .lit (.int .u8 14), .lit (.int .u8 24), .lit (.int .u8 3), .lit (.int .u8 30), .lit (.int .u8 22), .lit (.int .u8 20), .lit (.int .u8 15), .lit (.int .u8 25), .lit (.int .u8 17), .lit (.int .u8 4), .lit (.int .u8 8), .lit (.int .u8 31), .lit (.int .u8 27), .lit (.int .u8 13), .lit (.int .u8 23), .lit (.int .u8 21), .lit (.int .u8 19), .lit (.int .u8 16), .lit (.int .u8 7), .lit (.int .u8 26), .lit (.int .u8 12), .lit (.int .u8 18), .lit (.int .u8 6), .lit (.int .u8 11), .lit (.int .u8 5), .lit (.int .u8 10), .lit (.int .u8 9)]
def laid_math_bits_deBruijn64tab {H : Type} : DataW H := .agg [.lit (.int .u8 0), .lit (.int .u8 1), .lit (.int .u8 56), .lit (.int .u8 2), .lit (.int .u8 57), .lit (.int .u8 49), .lit (.int .u8 28), .lit (.int .u8 3), .lit (.int .u8 61), .lit (.int .u8 58), .lit (.int .u8 42), .lit (.int .u8 50), .lit (.int .u8 38), .lit (.int .u8 29), .lit (.int .u8 17), .lit (.int .u8 4), .lit (.int .u8 62), .lit (.int .u8 47), .lit (.int .u8 59), .lit (.int .u8 36), .lit (.int .u8 45), .lit (.int .u8 43), .lit (.int .u8 51), .lit (.int .u8 22), .lit (.int .u8 53), .lit (.int .u8 39), .lit (.int .u8 33), .lit (.int .u8 30), .lit (.int .u8 24), .lit (.int .u8 18), .lit (.int .u8 12), .lit (.int .u8 5), .lit (.int .u8 63), .lit (.int .u8 55), .lit (.int .u8 48), .lit (.int .u8 27), .lit (.int .u8 60), .lit (.int .u8 41), .lit (.int .u8 37), .lit (.int .u8 16), .lit (.int .u8 46), .lit (.int .u8 35), .lit (.int .u8 44), .lit (.int .u8 21), .lit (.int .u8 52), .lit (.int .u8 32), .lit (.int .u8 23), .lit (.int .u8 11), .lit (.int .u8 54), .lit (.int .u8 26), .lit (.int .u8 40), .lit (.int .u8 15), .lit (.int .u8 34), .lit (.int .u8 20), .lit (.int .u8 31), .lit (.int .u8 10), .lit (.int .u8 25), .lit (.int .u8 14), .lit (.int .u8 19), .lit (.int .u8 9), .lit (.int .u8 13), .lit (.int .u8 8), .lit (.int .u8 7), .lit (.int .u8 6)]
def laid_internal_strconv_uint64pow10 {H : Type} : DataW H := .agg [.lit (.int .u64 1), .lit (.int .u64 10), .lit (.int .u64 100), .lit (.int .u64 1000), .lit (.int .u64 10000), .lit (.int .u64 100000), .lit (.int .u64 1000000), .lit (.int .u64 10000000), .lit (.int .u64 100000000), .lit (.int .u64 1000000000), .lit (.int .u64 10000000000), .lit (.int .u64 100000000000), .lit (.int .u64 1000000000000), .lit (.int .u64 10000000000000), .lit (.int .u64 100000000000000), .lit (.int .u64 1000000000000000), .lit (.int .u64 10000000000000000), .lit (.int .u64 100000000000000000), .lit (.int .u64 1000000000000000000), .lit (.int .u64 10000000000000000000)]
def laid_glacier_seal_steps {H : Type} : DataW H := .agg [.lit (.int .u32 0), .lit (.int .u32 498536548), .lit (.int .u32 997073096), .lit (.int .u32 651767980), .lit (.int .u32 1994146192), .lit (.int .u32 1802195444), .lit (.int .u32 1303535960), .lit (.int .u32 1342533948), .lit (.int .u32 3988292384), .lit (.int .u32 4027552580), .lit (.int .u32 3604390888), .lit (.int .u32 3412177804), .lit (.int .u32 2607071920), .lit (.int .u32 2262029012), .lit (.int .u32 2685067896), .lit (.int .u32 3183342108)]

/-- 'glacierlaw06.ChunkRoom': WHATEVER THE INPUT: true; the input reads as it did. -/
def chunkRoomSpec : ChangeSpec := { name := "chunkRoom", fn := fun _ => fun
  | [d1, d2] => { results := [.lit (.bool true)], args := [d1, d2] }
  | _ => none }
def chunkRoomRow : OpenClaim := { program := "ytkplffkchanipaagreatdoor", sum := "f753fc0e4dee7799ef6216d6eb8f1dd005aedb2b9271e1a1e1916806fc70e489", func := "glacier/glacierlaw06.ChunkRoom", spec := "chunkRoom", inPlace := ["internal/abi.NoEscape", "internal/bytealg.MakeNoZero"], unfollowed := true, recurses := true, named := ["glacier/seal.steps", "internal/strconv.uint64pow10", "math/bits.deBruijn32tab", "math/bits.deBruijn64tab"], apart := false, laid := [("math/bits.deBruijn32tab", laid_math_bits_deBruijn32tab), ("math/bits.deBruijn64tab", laid_math_bits_deBruijn64tab), ("internal/strconv.uint64pow10", laid_internal_strconv_uint64pow10), ("glacier/seal.steps", laid_glacier_seal_steps)] }
def ChunkRoomSaid : Prop := chunkRoomRow.holds Tryz.pinned (OpenSpec.ofChange chunkRoomSpec)

/-- ITS FALSE NEIGHBOUR: 'it returns false'. Refute it at one input. -/
def chunkRoomWrong : ChangeSpec := { name := "chunkRoom", fn := fun _ => fun
  | [d1, d2] => { results := [.lit (.bool false)], args := [d1, d2] }
  | _ => none }
def ChunkRoomWrongFalsely : Prop := chunkRoomRow.holds Tryz.pinned (OpenSpec.ofChange chunkRoomWrong)

/-- 'glacierlaw06.ChunkAgain': WHATEVER THE INPUT: true; the input reads as it did. -/
def chunkAgainSpec : ChangeSpec := { name := "chunkAgain", fn := fun _ => fun
  | [d1, d2, d3] => { results := [.lit (.bool true)], args := [d1, d2, d3] }
  | _ => none }
def chunkAgainRow : OpenClaim := { program := "ytkplffkchanipaagreatdoor", sum := "f753fc0e4dee7799ef6216d6eb8f1dd005aedb2b9271e1a1e1916806fc70e489", func := "glacier/glacierlaw06.ChunkAgain", spec := "chunkAgain", inPlace := ["internal/abi.NoEscape", "internal/bytealg.MakeNoZero"], unfollowed := true, recurses := true, named := ["glacier/seal.steps", "internal/strconv.uint64pow10", "math/bits.deBruijn32tab", "math/bits.deBruijn64tab"], apart := false, laid := [("math/bits.deBruijn32tab", laid_math_bits_deBruijn32tab), ("math/bits.deBruijn64tab", laid_math_bits_deBruijn64tab), ("internal/strconv.uint64pow10", laid_internal_strconv_uint64pow10), ("glacier/seal.steps", laid_glacier_seal_steps)] }
def ChunkAgainSaid : Prop := chunkAgainRow.holds Tryz.pinned (OpenSpec.ofChange chunkAgainSpec)

/-- ITS FALSE NEIGHBOUR: 'it returns false'. Refute it at one input. -/
def chunkAgainWrong : ChangeSpec := { name := "chunkAgain", fn := fun _ => fun
  | [d1, d2, d3] => { results := [.lit (.bool false)], args := [d1, d2, d3] }
  | _ => none }
def ChunkAgainWrongFalsely : Prop := chunkAgainRow.holds Tryz.pinned (OpenSpec.ofChange chunkAgainWrong)

/-- 'glacierlaw06.ChunkSpoilt': WHATEVER THE INPUT: true; the input reads as it did. -/
def chunkSpoiltSpec : ChangeSpec := { name := "chunkSpoilt", fn := fun _ => fun
  | [d1, d2, d3, d4] => { results := [.lit (.bool true)], args := [d1, d2, d3, d4] }
  | _ => none }
def chunkSpoiltRow : OpenClaim := { program := "ytkplffkchanipaagreatdoor", sum := "f753fc0e4dee7799ef6216d6eb8f1dd005aedb2b9271e1a1e1916806fc70e489", func := "glacier/glacierlaw06.ChunkSpoilt", spec := "chunkSpoilt", inPlace := ["internal/abi.NoEscape", "internal/bytealg.MakeNoZero"], unfollowed := true, recurses := true, named := ["glacier/seal.steps", "internal/strconv.uint64pow10", "math/bits.deBruijn32tab", "math/bits.deBruijn64tab"], apart := false, laid := [("math/bits.deBruijn32tab", laid_math_bits_deBruijn32tab), ("math/bits.deBruijn64tab", laid_math_bits_deBruijn64tab), ("internal/strconv.uint64pow10", laid_internal_strconv_uint64pow10), ("glacier/seal.steps", laid_glacier_seal_steps)] }
def ChunkSpoiltSaid : Prop := chunkSpoiltRow.holds Tryz.pinned (OpenSpec.ofChange chunkSpoiltSpec)

/-- ITS FALSE NEIGHBOUR: 'it returns false'. Refute it at one input. -/
def chunkSpoiltWrong : ChangeSpec := { name := "chunkSpoilt", fn := fun _ => fun
  | [d1, d2, d3, d4] => { results := [.lit (.bool false)], args := [d1, d2, d3, d4] }
  | _ => none }
def ChunkSpoiltWrongFalsely : Prop := chunkSpoiltRow.holds Tryz.pinned (OpenSpec.ofChange chunkSpoiltWrong)

/-- 'glacierlaw06.ChunkTwice': WHATEVER THE INPUT: true; the input reads as it did. -/
def chunkTwiceSpec : ChangeSpec := { name := "chunkTwice", fn := fun _ => fun
  | [d1, d2] => { results := [.lit (.bool true)], args := [d1, d2] }
  | _ => none }
def chunkTwiceRow : OpenClaim := { program := "ytkplffkchanipaagreatdoor", sum := "f753fc0e4dee7799ef6216d6eb8f1dd005aedb2b9271e1a1e1916806fc70e489", func := "glacier/glacierlaw06.ChunkTwice", spec := "chunkTwice", inPlace := ["internal/abi.NoEscape", "internal/bytealg.MakeNoZero"], unfollowed := true, recurses := true, named := ["glacier/seal.steps", "internal/strconv.uint64pow10", "math/bits.deBruijn32tab", "math/bits.deBruijn64tab"], apart := false, laid := [("math/bits.deBruijn32tab", laid_math_bits_deBruijn32tab), ("math/bits.deBruijn64tab", laid_math_bits_deBruijn64tab), ("internal/strconv.uint64pow10", laid_internal_strconv_uint64pow10), ("glacier/seal.steps", laid_glacier_seal_steps)] }
def ChunkTwiceSaid : Prop := chunkTwiceRow.holds Tryz.pinned (OpenSpec.ofChange chunkTwiceSpec)

/-- ITS FALSE NEIGHBOUR: 'it returns false'. Refute it at one input. -/
def chunkTwiceWrong : ChangeSpec := { name := "chunkTwice", fn := fun _ => fun
  | [d1, d2] => { results := [.lit (.bool false)], args := [d1, d2] }
  | _ => none }
def ChunkTwiceWrongFalsely : Prop := chunkTwiceRow.holds Tryz.pinned (OpenSpec.ofChange chunkTwiceWrong)

/-- 'glacierlaw06.ChunkCompact': WHATEVER THE INPUT: true; the input reads as it did. -/
def chunkCompactSpec : ChangeSpec := { name := "chunkCompact", fn := fun _ => fun
  | [d1, d2, d3, d4] => { results := [.lit (.bool true)], args := [d1, d2, d3, d4] }
  | _ => none }
def chunkCompactRow : OpenClaim := { program := "ytkplffkchanipaagreatdoor", sum := "f753fc0e4dee7799ef6216d6eb8f1dd005aedb2b9271e1a1e1916806fc70e489", func := "glacier/glacierlaw06.ChunkCompact", spec := "chunkCompact", inPlace := ["internal/abi.NoEscape", "internal/bytealg.MakeNoZero"], unfollowed := true, recurses := true, named := ["glacier/seal.steps", "internal/strconv.uint64pow10", "math/bits.deBruijn32tab", "math/bits.deBruijn64tab"], apart := false, laid := [("math/bits.deBruijn32tab", laid_math_bits_deBruijn32tab), ("math/bits.deBruijn64tab", laid_math_bits_deBruijn64tab), ("internal/strconv.uint64pow10", laid_internal_strconv_uint64pow10), ("glacier/seal.steps", laid_glacier_seal_steps)] }
def ChunkCompactSaid : Prop := chunkCompactRow.holds Tryz.pinned (OpenSpec.ofChange chunkCompactSpec)

/-- ITS FALSE NEIGHBOUR: 'it returns false'. Refute it at one input. -/
def chunkCompactWrong : ChangeSpec := { name := "chunkCompact", fn := fun _ => fun
  | [d1, d2, d3, d4] => { results := [.lit (.bool false)], args := [d1, d2, d3, d4] }
  | _ => none }
def ChunkCompactWrongFalsely : Prop := chunkCompactRow.holds Tryz.pinned (OpenSpec.ofChange chunkCompactWrong)

/-- 'glacierlaw19.NodeDrops': WHATEVER THE INPUT: true; the input reads as it did. -/
def nodeDropsSpec : ChangeSpec := { name := "nodeDrops", fn := fun _ => fun
  | [d] => { results := [.lit (.bool true)], args := [d] }
  | _ => none }
def nodeDropsRow : OpenClaim := { program := "ytkplffkchanipaagreatdoor", sum := "f753fc0e4dee7799ef6216d6eb8f1dd005aedb2b9271e1a1e1916806fc70e489", func := "glacier/glacierlaw19.NodeDrops", spec := "nodeDrops", inPlace := ["internal/abi.NoEscape", "internal/bytealg.MakeNoZero"], unfollowed := true, recurses := true, named := ["glacier/seal.steps", "internal/strconv.uint64pow10", "math/bits.deBruijn32tab", "math/bits.deBruijn64tab"], apart := false, laid := [("math/bits.deBruijn32tab", laid_math_bits_deBruijn32tab), ("math/bits.deBruijn64tab", laid_math_bits_deBruijn64tab), ("internal/strconv.uint64pow10", laid_internal_strconv_uint64pow10), ("glacier/seal.steps", laid_glacier_seal_steps)] }
def NodeDropsSaid : Prop := nodeDropsRow.holds Tryz.pinned (OpenSpec.ofChange nodeDropsSpec)

/-- ITS FALSE NEIGHBOUR: 'it returns false'. Refute it at one input. -/
def nodeDropsWrong : ChangeSpec := { name := "nodeDrops", fn := fun _ => fun
  | [d] => { results := [.lit (.bool false)], args := [d] }
  | _ => none }
def NodeDropsWrongFalsely : Prop := nodeDropsRow.holds Tryz.pinned (OpenSpec.ofChange nodeDropsWrong)

/-- 'glacierlaw19.NodeKept': WHATEVER THE INPUT: true; the input reads as it did. -/
def nodeKeptSpec : ChangeSpec := { name := "nodeKept", fn := fun _ => fun
  | [d1, d2, d3] => { results := [.lit (.bool true)], args := [d1, d2, d3] }
  | _ => none }
def nodeKeptRow : OpenClaim := { program := "ytkplffkchanipaagreatdoor", sum := "f753fc0e4dee7799ef6216d6eb8f1dd005aedb2b9271e1a1e1916806fc70e489", func := "glacier/glacierlaw19.NodeKept", spec := "nodeKept", inPlace := ["internal/abi.NoEscape", "internal/bytealg.MakeNoZero"], unfollowed := true, recurses := true, named := ["glacier/seal.steps", "internal/strconv.uint64pow10", "math/bits.deBruijn32tab", "math/bits.deBruijn64tab"], apart := false, laid := [("math/bits.deBruijn32tab", laid_math_bits_deBruijn32tab), ("math/bits.deBruijn64tab", laid_math_bits_deBruijn64tab), ("internal/strconv.uint64pow10", laid_internal_strconv_uint64pow10), ("glacier/seal.steps", laid_glacier_seal_steps)] }
def NodeKeptSaid : Prop := nodeKeptRow.holds Tryz.pinned (OpenSpec.ofChange nodeKeptSpec)

/-- ITS FALSE NEIGHBOUR: 'it returns false'. Refute it at one input. -/
def nodeKeptWrong : ChangeSpec := { name := "nodeKept", fn := fun _ => fun
  | [d1, d2, d3] => { results := [.lit (.bool false)], args := [d1, d2, d3] }
  | _ => none }
def NodeKeptWrongFalsely : Prop := nodeKeptRow.holds Tryz.pinned (OpenSpec.ofChange nodeKeptWrong)

/-- 'glacierlaw19.NodeLost': WHATEVER THE INPUT: true; the input reads as it did. -/
def nodeLostSpec : ChangeSpec := { name := "nodeLost", fn := fun _ => fun
  | [d] => { results := [.lit (.bool true)], args := [d] }
  | _ => none }
def nodeLostRow : OpenClaim := { program := "ytkplffkchanipaagreatdoor", sum := "f753fc0e4dee7799ef6216d6eb8f1dd005aedb2b9271e1a1e1916806fc70e489", func := "glacier/glacierlaw19.NodeLost", spec := "nodeLost", inPlace := ["internal/abi.NoEscape", "internal/bytealg.MakeNoZero"], unfollowed := true, recurses := true, named := ["glacier/seal.steps", "internal/strconv.uint64pow10", "math/bits.deBruijn32tab", "math/bits.deBruijn64tab"], apart := false, laid := [("math/bits.deBruijn32tab", laid_math_bits_deBruijn32tab), ("math/bits.deBruijn64tab", laid_math_bits_deBruijn64tab), ("internal/strconv.uint64pow10", laid_internal_strconv_uint64pow10), ("glacier/seal.steps", laid_glacier_seal_steps)] }
def NodeLostSaid : Prop := nodeLostRow.holds Tryz.pinned (OpenSpec.ofChange nodeLostSpec)

/-- ITS FALSE NEIGHBOUR: 'it returns false'. Refute it at one input. -/
def nodeLostWrong : ChangeSpec := { name := "nodeLost", fn := fun _ => fun
  | [d] => { results := [.lit (.bool false)], args := [d] }
  | _ => none }
def NodeLostWrongFalsely : Prop := nodeLostRow.holds Tryz.pinned (OpenSpec.ofChange nodeLostWrong)

/-- 'glacierlaw19.NodePlays': WHATEVER THE INPUT: true; the input reads as it did. -/
def nodePlaysSpec : ChangeSpec := { name := "nodePlays", fn := fun _ => fun
  | [d] => { results := [.lit (.bool true)], args := [d] }
  | _ => none }
def nodePlaysRow : OpenClaim := { program := "ytkplffkchanipaagreatdoor", sum := "f753fc0e4dee7799ef6216d6eb8f1dd005aedb2b9271e1a1e1916806fc70e489", func := "glacier/glacierlaw19.NodePlays", spec := "nodePlays", inPlace := ["internal/abi.NoEscape", "internal/bytealg.MakeNoZero"], unfollowed := true, recurses := true, named := ["glacier/seal.steps", "internal/strconv.uint64pow10", "math/bits.deBruijn32tab", "math/bits.deBruijn64tab"], apart := false, laid := [("math/bits.deBruijn32tab", laid_math_bits_deBruijn32tab), ("math/bits.deBruijn64tab", laid_math_bits_deBruijn64tab), ("internal/strconv.uint64pow10", laid_internal_strconv_uint64pow10), ("glacier/seal.steps", laid_glacier_seal_steps)] }
def NodePlaysSaid : Prop := nodePlaysRow.holds Tryz.pinned (OpenSpec.ofChange nodePlaysSpec)

/-- ITS FALSE NEIGHBOUR: 'it returns false'. Refute it at one input. -/
def nodePlaysWrong : ChangeSpec := { name := "nodePlays", fn := fun _ => fun
  | [d] => { results := [.lit (.bool false)], args := [d] }
  | _ => none }
def NodePlaysWrongFalsely : Prop := nodePlaysRow.holds Tryz.pinned (OpenSpec.ofChange nodePlaysWrong)

/- THE SECOND FORM. 'bulk': how many values and letters a reading holds, each counted each time it is reached (what is shared counts as often as it is met; a slice's spare places count too). A statement '..UptoSaid' is the law's where the arguments, and the package variables that the reading takes, are together of bulk at most 1048576: NARROWER than '..Said'. Prove '..Said' where nothing that the law and all that it calls make is longer than what came in: it says more and counts as full. Else prove '..UptoSaid'. A law counts once. -/
mutual
def uptoBulk {H : Type} : DataW H → Nat
  | .lit (.string bytes) => bytes.length + 1
  | .lit _ => 1
  | .nil => 1
  | .ptr d => uptoBulk d + 1
  | .slice elems spare => uptoBulkAll elems + uptoBulkAll spare + 1
  | .agg parts => uptoBulkAll parts + 1
  | .iface _ d => uptoBulk d + 1
  | .map entries => uptoBulkEntries entries + 1
  | .held _ => 1
def uptoBulkAll {H : Type} : List (DataW H) → Nat
  | [] => 0
  | d :: r => uptoBulk d + uptoBulkAll r
def uptoBulkEntries {H : Type} : List (Lit × DataW H) → Nat
  | [] => 0
  | x :: r => uptoBulkEntry x + uptoBulkEntries r
def uptoBulkEntry {H : Type} : Lit × DataW H → Nat
  | (.string bytes, d) => bytes.length + uptoBulk d + 1
  | (_, d) => uptoBulk d + 1
 end
def uptoSmall : (H : Type) → List (DataW H) → Bool := fun _ ds => decide (uptoBulkAll ds ≤ 1048576)
def OpenSpec.upto (s : _root_.Go.ChangeSpec) : _root_.Go.OpenSpec := { _root_.Go.OpenSpec.ofChange s with cond := some uptoSmall }

/-- 'glacierlaw06.ChunkRoom', WHERE WHAT IT READS IS OF BULK AT MOST 1048576: true; the input reads as it did. -/
def chunkRoomUptoRow : OpenClaim := { program := "ytkplffkchanipaagreatdoor", sum := "f753fc0e4dee7799ef6216d6eb8f1dd005aedb2b9271e1a1e1916806fc70e489", func := "glacier/glacierlaw06.ChunkRoom", spec := "chunkRoom", inPlace := ["internal/abi.NoEscape", "internal/bytealg.MakeNoZero"], unfollowed := true, recurses := true, named := ["glacier/seal.steps", "internal/strconv.uint64pow10", "math/bits.deBruijn32tab", "math/bits.deBruijn64tab"], apart := false, laid := [("math/bits.deBruijn32tab", laid_math_bits_deBruijn32tab), ("math/bits.deBruijn64tab", laid_math_bits_deBruijn64tab), ("internal/strconv.uint64pow10", laid_internal_strconv_uint64pow10), ("glacier/seal.steps", laid_glacier_seal_steps)], narrowed := true }
def ChunkRoomUptoSaid : Prop := chunkRoomUptoRow.holds Tryz.pinned (OpenSpec.upto chunkRoomSpec)

/-- 'glacierlaw06.ChunkAgain', WHERE WHAT IT READS IS OF BULK AT MOST 1048576: true; the input reads as it did. -/
def chunkAgainUptoRow : OpenClaim := { program := "ytkplffkchanipaagreatdoor", sum := "f753fc0e4dee7799ef6216d6eb8f1dd005aedb2b9271e1a1e1916806fc70e489", func := "glacier/glacierlaw06.ChunkAgain", spec := "chunkAgain", inPlace := ["internal/abi.NoEscape", "internal/bytealg.MakeNoZero"], unfollowed := true, recurses := true, named := ["glacier/seal.steps", "internal/strconv.uint64pow10", "math/bits.deBruijn32tab", "math/bits.deBruijn64tab"], apart := false, laid := [("math/bits.deBruijn32tab", laid_math_bits_deBruijn32tab), ("math/bits.deBruijn64tab", laid_math_bits_deBruijn64tab), ("internal/strconv.uint64pow10", laid_internal_strconv_uint64pow10), ("glacier/seal.steps", laid_glacier_seal_steps)], narrowed := true }
def ChunkAgainUptoSaid : Prop := chunkAgainUptoRow.holds Tryz.pinned (OpenSpec.upto chunkAgainSpec)

/-- 'glacierlaw06.ChunkSpoilt', WHERE WHAT IT READS IS OF BULK AT MOST 1048576: true; the input reads as it did. -/
def chunkSpoiltUptoRow : OpenClaim := { program := "ytkplffkchanipaagreatdoor", sum := "f753fc0e4dee7799ef6216d6eb8f1dd005aedb2b9271e1a1e1916806fc70e489", func := "glacier/glacierlaw06.ChunkSpoilt", spec := "chunkSpoilt", inPlace := ["internal/abi.NoEscape", "internal/bytealg.MakeNoZero"], unfollowed := true, recurses := true, named := ["glacier/seal.steps", "internal/strconv.uint64pow10", "math/bits.deBruijn32tab", "math/bits.deBruijn64tab"], apart := false, laid := [("math/bits.deBruijn32tab", laid_math_bits_deBruijn32tab), ("math/bits.deBruijn64tab", laid_math_bits_deBruijn64tab), ("internal/strconv.uint64pow10", laid_internal_strconv_uint64pow10), ("glacier/seal.steps", laid_glacier_seal_steps)], narrowed := true }
def ChunkSpoiltUptoSaid : Prop := chunkSpoiltUptoRow.holds Tryz.pinned (OpenSpec.upto chunkSpoiltSpec)

/-- 'glacierlaw06.ChunkTwice', WHERE WHAT IT READS IS OF BULK AT MOST 1048576: true; the input reads as it did. -/
def chunkTwiceUptoRow : OpenClaim := { program := "ytkplffkchanipaagreatdoor", sum := "f753fc0e4dee7799ef6216d6eb8f1dd005aedb2b9271e1a1e1916806fc70e489", func := "glacier/glacierlaw06.ChunkTwice", spec := "chunkTwice", inPlace := ["internal/abi.NoEscape", "internal/bytealg.MakeNoZero"], unfollowed := true, recurses := true, named := ["glacier/seal.steps", "internal/strconv.uint64pow10", "math/bits.deBruijn32tab", "math/bits.deBruijn64tab"], apart := false, laid := [("math/bits.deBruijn32tab", laid_math_bits_deBruijn32tab), ("math/bits.deBruijn64tab", laid_math_bits_deBruijn64tab), ("internal/strconv.uint64pow10", laid_internal_strconv_uint64pow10), ("glacier/seal.steps", laid_glacier_seal_steps)], narrowed := true }
def ChunkTwiceUptoSaid : Prop := chunkTwiceUptoRow.holds Tryz.pinned (OpenSpec.upto chunkTwiceSpec)

/-- 'glacierlaw06.ChunkCompact', WHERE WHAT IT READS IS OF BULK AT MOST 1048576: true; the input reads as it did. -/
def chunkCompactUptoRow : OpenClaim := { program := "ytkplffkchanipaagreatdoor", sum := "f753fc0e4dee7799ef6216d6eb8f1dd005aedb2b9271e1a1e1916806fc70e489", func := "glacier/glacierlaw06.ChunkCompact", spec := "chunkCompact", inPlace := ["internal/abi.NoEscape", "internal/bytealg.MakeNoZero"], unfollowed := true, recurses := true, named := ["glacier/seal.steps", "internal/strconv.uint64pow10", "math/bits.deBruijn32tab", "math/bits.deBruijn64tab"], apart := false, laid := [("math/bits.deBruijn32tab", laid_math_bits_deBruijn32tab), ("math/bits.deBruijn64tab", laid_math_bits_deBruijn64tab), ("internal/strconv.uint64pow10", laid_internal_strconv_uint64pow10), ("glacier/seal.steps", laid_glacier_seal_steps)], narrowed := true }
def ChunkCompactUptoSaid : Prop := chunkCompactUptoRow.holds Tryz.pinned (OpenSpec.upto chunkCompactSpec)

/-- 'glacierlaw19.NodeDrops', WHERE WHAT IT READS IS OF BULK AT MOST 1048576: true; the input reads as it did. -/
def nodeDropsUptoRow : OpenClaim := { program := "ytkplffkchanipaagreatdoor", sum := "f753fc0e4dee7799ef6216d6eb8f1dd005aedb2b9271e1a1e1916806fc70e489", func := "glacier/glacierlaw19.NodeDrops", spec := "nodeDrops", inPlace := ["internal/abi.NoEscape", "internal/bytealg.MakeNoZero"], unfollowed := true, recurses := true, named := ["glacier/seal.steps", "internal/strconv.uint64pow10", "math/bits.deBruijn32tab", "math/bits.deBruijn64tab"], apart := false, laid := [("math/bits.deBruijn32tab", laid_math_bits_deBruijn32tab), ("math/bits.deBruijn64tab", laid_math_bits_deBruijn64tab), ("internal/strconv.uint64pow10", laid_internal_strconv_uint64pow10), ("glacier/seal.steps", laid_glacier_seal_steps)], narrowed := true }
def NodeDropsUptoSaid : Prop := nodeDropsUptoRow.holds Tryz.pinned (OpenSpec.upto nodeDropsSpec)

/-- 'glacierlaw19.NodeKept', WHERE WHAT IT READS IS OF BULK AT MOST 1048576: true; the input reads as it did. -/
def nodeKeptUptoRow : OpenClaim := { program := "ytkplffkchanipaagreatdoor", sum := "f753fc0e4dee7799ef6216d6eb8f1dd005aedb2b9271e1a1e1916806fc70e489", func := "glacier/glacierlaw19.NodeKept", spec := "nodeKept", inPlace := ["internal/abi.NoEscape", "internal/bytealg.MakeNoZero"], unfollowed := true, recurses := true, named := ["glacier/seal.steps", "internal/strconv.uint64pow10", "math/bits.deBruijn32tab", "math/bits.deBruijn64tab"], apart := false, laid := [("math/bits.deBruijn32tab", laid_math_bits_deBruijn32tab), ("math/bits.deBruijn64tab", laid_math_bits_deBruijn64tab), ("internal/strconv.uint64pow10", laid_internal_strconv_uint64pow10), ("glacier/seal.steps", laid_glacier_seal_steps)], narrowed := true }
def NodeKeptUptoSaid : Prop := nodeKeptUptoRow.holds Tryz.pinned (OpenSpec.upto nodeKeptSpec)

/-- 'glacierlaw19.NodeLost', WHERE WHAT IT READS IS OF BULK AT MOST 1048576: true; the input reads as it did. -/
def nodeLostUptoRow : OpenClaim := { program := "ytkplffkchanipaagreatdoor", sum := "f753fc0e4dee7799ef6216d6eb8f1dd005aedb2b9271e1a1e1916806fc70e489", func := "glacier/glacierlaw19.NodeLost", spec := "nodeLost", inPlace := ["internal/abi.NoEscape", "internal/bytealg.MakeNoZero"], unfollowed := true, recurses := true, named := ["glacier/seal.steps", "internal/strconv.uint64pow10", "math/bits.deBruijn32tab", "math/bits.deBruijn64tab"], apart := false, laid := [("math/bits.deBruijn32tab", laid_math_bits_deBruijn32tab), ("math/bits.deBruijn64tab", laid_math_bits_deBruijn64tab), ("internal/strconv.uint64pow10", laid_internal_strconv_uint64pow10), ("glacier/seal.steps", laid_glacier_seal_steps)], narrowed := true }
def NodeLostUptoSaid : Prop := nodeLostUptoRow.holds Tryz.pinned (OpenSpec.upto nodeLostSpec)

/-- 'glacierlaw19.NodePlays', WHERE WHAT IT READS IS OF BULK AT MOST 1048576: true; the input reads as it did. -/
def nodePlaysUptoRow : OpenClaim := { program := "ytkplffkchanipaagreatdoor", sum := "f753fc0e4dee7799ef6216d6eb8f1dd005aedb2b9271e1a1e1916806fc70e489", func := "glacier/glacierlaw19.NodePlays", spec := "nodePlays", inPlace := ["internal/abi.NoEscape", "internal/bytealg.MakeNoZero"], unfollowed := true, recurses := true, named := ["glacier/seal.steps", "internal/strconv.uint64pow10", "math/bits.deBruijn32tab", "math/bits.deBruijn64tab"], apart := false, laid := [("math/bits.deBruijn32tab", laid_math_bits_deBruijn32tab), ("math/bits.deBruijn64tab", laid_math_bits_deBruijn64tab), ("internal/strconv.uint64pow10", laid_internal_strconv_uint64pow10), ("glacier/seal.steps", laid_glacier_seal_steps)], narrowed := true }
def NodePlaysUptoSaid : Prop := nodePlaysUptoRow.holds Tryz.pinned (OpenSpec.upto nodePlaysSpec)

end Rows
end Go.Proofs.YtkplffkchanipaaGreatDoor
