/-
  NARROWER THAN 'FOR EVERY INPUT', by the rows' own cells (each row's printed sentence says how): LangTexts: laid · LangStrings: laid · LangSame: loops, laid · LangAgain: laid · LangCut: loops, laid · LangEdits: loops, laid · LangNodes: loops, laid · LangKept: loops, laid · LangBack: loops, laid · LangAny: loops, laid · LangPlaces: loops, laid · LangVisible: loops, laid · LangKnown: laid.
  DERIVED. THE GIVEN ROWS OF THIS SEAT. 13 by the template 'for every input the law returns true; each argument reads behind the call as it read before'; 0 by the template 'total and deterministic' (their statements: YtchldahkcpbgcaaGreatDoorTotals.lean).
  GIVEN WITH THE SEED: the statements are not yours to turn. If you find one false, say at which input.
  Laid BY PROGRAM, IN A SANDBOX (cutbox-rows.mjs): the forced cells as the released guide's own fill.sh prints them over the translation aa22231b10b6ec6b… (all of the seat's roots in one cut). By AI agents, Wed Nov 11 2026. No macro, syntax, notation, axiom, sorry.
-/
import Derived.Test.YtchldahkcpbgcaaGreatDoorChecked
import GoSem.Claim
import GoSem.ClaimJoined
import GoSem.ClaimMapViews
import Derived.JoinedTies
import Derived.KernelRfl
namespace Go.Proofs.YtchldahkcpbgcaaGreatDoor
/- THE CELL 'sum', in the pinned program and in every row, IS THE sha256 OF THE DUMP (.gsa) THAT YtchldahkcpbgcaaGreatDoorProg.lean LOADS. Nothing in Lean hashes anything: it is a label: what it is worth is what the hold of that sum in a sandbox is worth. -/
noncomputable def Tryz.pinned : Pinned := { name := "ytchldahkcpbgcaagreatdoor", sum := "aa22231b10b6ec6b737a17026dff4a797f6507ae3ed5eb75c9ceebf5638f61dd", checked := Tryz.checked }
namespace Rows
def none {H : Type} : Left H := { results := [], args := [] }

/- WHAT THE LISTED PACKAGE-LEVEL VARIABLES READ AS WHEN THE CALL BEGINS. Each datum BY PROGRAM (the guide's laid-datum.mjs) off the statement by which the dump's own 'gosem.cut.vars' lays the variable. In a bare row this is a premise. The card (YtchldahkcpbgcaaGreatDoorCards.lean) ties it to the program's text. -/
def laid_math_bits_deBruijn32tab {H : Type} : DataW H := .agg [.lit (.int .u8 0), .lit (.int .u8 1), .lit (.int .u8 28), .lit (.int .u8 2), .lit (.int .u8 29), .lit (.int .u8 14), .lit (.int .u8 24), .lit (.int .u8 3), .lit (.int .u8 30), .lit (.int .u8 22), .lit (.int .u8 20), .lit (.int .u8 15), .lit (.int .u8 25), .lit (.int .u8 17), .lit (.int .u8 4), .lit (.int .u8 8), .lit (.int .u8 31), .lit (.int .u8 27), .lit (.int .u8 13), .lit (.int .u8 23), .lit (.int .u8 21), .lit (.int .u8 19), .lit (.int .u8 16), .lit (.int .u8 7), .lit (.int .u8 26), .lit (.int .u8 12), .lit (.int .u8 18), .lit (.int .u8 6), .lit (.int .u8 11), .lit (.int .u8 5), .lit (.int .u8 10), .lit (.int .u8 9)]
def laid_math_bits_deBruijn64tab {H : Type} : DataW H := .agg [.lit (.int .u8 0), .lit (.int .u8 1), .lit (.int .u8 56), .lit (.int .u8 2), .lit (.int .u8 57), .lit (.int .u8 49), .lit (.int .u8 28), .lit (.int .u8 3), .lit (.int .u8 61), .lit (.int .u8 58), .lit (.int .u8 42), .lit (.int .u8 50), .lit (.int .u8 38), .lit (.int .u8 29), .lit (.int .u8 17), .lit (.int .u8 4), .lit (.int .u8 62), .lit (.int .u8 47), .lit (.int .u8 59), .lit (.int .u8 36), .lit (.int .u8 45), .lit (.int .u8 43), .lit (.int .u8 51), .lit (.int .u8 22), .lit (.int .u8 53), .lit (.int .u8 39), .lit (.int .u8 33), .lit (.int .u8 30), .lit (.int .u8 24), .lit (.int .u8 18), .lit (.int .u8 12), .lit (.int .u8 5), .lit (.int .u8 63), .lit (.int .u8 55), .lit (.int .u8 48), .lit (.int .u8 27), .lit (.int .u8 60), .lit (.int .u8 41), .lit (.int .u8 37), .lit (.int .u8 16), .lit (.int .u8 46), .lit (.int .u8 35), .lit (.int .u8 44), .lit (.int .u8 21), .lit (.int .u8 52), .lit (.int .u8 32), .lit (.int .u8 23), .lit (.int .u8 11), .lit (.int .u8 54), .lit (.int .u8 26), .lit (.int .u8 40), .lit (.int .u8 15), .lit (.int .u8 34), .lit (.int .u8 20), .lit (.int .u8 31), .lit (.int .u8 10), .lit (.int .u8 25), .lit (.int .u8 14), .lit (.int .u8 19), .lit (.int .u8 9), .lit (.int .u8 13), .lit (.int .u8 8), .lit (.int .u8 7), .lit (.int .u8 6)]
def laid_internal_strconv_uint64pow10 {H : Type} : DataW H := .agg [.lit (.int .u64 1), .lit (.int .u64 10), .lit (.int .u64 100), .lit (.int .u64 1000), .lit (.int .u64 10000), .lit (.int .u64 100000), .lit (.int .u64 1000000), .lit (.int .u64 10000000), .lit (.int .u64 100000000), .lit (.int .u64 1000000000), .lit (.int .u64 10000000000), .lit (.int .u64 100000000000), .lit (.int .u64 1000000000000), .lit (.int .u64 10000000000000), .lit (.int .u64 100000000000000), .lit (.int .u64 1000000000000000), .lit (.int .u64 10000000000000000), .lit (.int .u64 100000000000000000), .lit (.int .u64 1000000000000000000), .lit (.int .u64 10000000000000000000)]
def laid_strconv_ErrRange {H : Type} : DataW H := .iface "*errors.errorString" (.ptr (.agg [.lit (.string [118, 97, 108, 117, 101, 32, 111, 117, 116, 32, 111, 102, 32, 114, 97, 110, 103, 101])]))
def laid_strconv_ErrSyntax {H : Type} : DataW H := .iface "*errors.errorString" (.ptr (.agg [.lit (.string [105, 110, 118, 97, 108, 105, 100, 32, 115, 121, 110, 116, 97, 120])]))

/-- 'sleuthlaw01.LangTexts': WHATEVER THE INPUT: true; the input reads as it did. -/
def langTextsSpec : ChangeSpec := { name := "langTexts", fn := fun _ => fun
  | [d] => { results := [.lit (.bool true)], args := [d] }
  | _ => none }
def langTextsRow : OpenClaim := { program := "ytchldahkcpbgcaagreatdoor", sum := "aa22231b10b6ec6b737a17026dff4a797f6507ae3ed5eb75c9ceebf5638f61dd", func := "sleuth/sleuthlaw01.LangTexts", spec := "langTexts", inPlace := ["internal/abi.NoEscape", "internal/bytealg.MakeNoZero"], unfollowed := true, recurses := true, named := ["strconv.ErrSyntax", "strconv.ErrRange", "internal/strconv.uint64pow10", "math/bits.deBruijn32tab", "math/bits.deBruijn64tab"], apart := false, laid := [("math/bits.deBruijn32tab", laid_math_bits_deBruijn32tab), ("math/bits.deBruijn64tab", laid_math_bits_deBruijn64tab), ("internal/strconv.uint64pow10", laid_internal_strconv_uint64pow10), ("strconv.ErrRange", laid_strconv_ErrRange), ("strconv.ErrSyntax", laid_strconv_ErrSyntax)] }
def LangTextsSaid : Prop := langTextsRow.holds Tryz.pinned (OpenSpec.ofChange langTextsSpec)

/-- ITS FALSE NEIGHBOUR: 'it returns false'. Refute it at one input. -/
def langTextsWrong : ChangeSpec := { name := "langTexts", fn := fun _ => fun
  | [d] => { results := [.lit (.bool false)], args := [d] }
  | _ => none }
def LangTextsWrongFalsely : Prop := langTextsRow.holds Tryz.pinned (OpenSpec.ofChange langTextsWrong)

/-- 'sleuthlaw01.LangStrings': WHATEVER THE INPUT: true; the input reads as it did. -/
def langStringsSpec : ChangeSpec := { name := "langStrings", fn := fun _ => fun
  | [d] => { results := [.lit (.bool true)], args := [d] }
  | _ => none }
def langStringsRow : OpenClaim := { program := "ytchldahkcpbgcaagreatdoor", sum := "aa22231b10b6ec6b737a17026dff4a797f6507ae3ed5eb75c9ceebf5638f61dd", func := "sleuth/sleuthlaw01.LangStrings", spec := "langStrings", inPlace := ["internal/abi.NoEscape", "internal/bytealg.MakeNoZero"], unfollowed := true, recurses := true, named := ["strconv.ErrSyntax", "strconv.ErrRange", "internal/strconv.uint64pow10", "math/bits.deBruijn32tab", "math/bits.deBruijn64tab"], apart := false, laid := [("math/bits.deBruijn32tab", laid_math_bits_deBruijn32tab), ("math/bits.deBruijn64tab", laid_math_bits_deBruijn64tab), ("internal/strconv.uint64pow10", laid_internal_strconv_uint64pow10), ("strconv.ErrRange", laid_strconv_ErrRange), ("strconv.ErrSyntax", laid_strconv_ErrSyntax)] }
def LangStringsSaid : Prop := langStringsRow.holds Tryz.pinned (OpenSpec.ofChange langStringsSpec)

/-- ITS FALSE NEIGHBOUR: 'it returns false'. Refute it at one input. -/
def langStringsWrong : ChangeSpec := { name := "langStrings", fn := fun _ => fun
  | [d] => { results := [.lit (.bool false)], args := [d] }
  | _ => none }
def LangStringsWrongFalsely : Prop := langStringsRow.holds Tryz.pinned (OpenSpec.ofChange langStringsWrong)

/-- 'sleuthlaw01.LangSame': WHATEVER THE INPUT: true; the input reads as it did. -/
def langSameSpec : ChangeSpec := { name := "langSame", fn := fun _ => fun
  | [d1, d2] => { results := [.lit (.bool true)], args := [d1, d2] }
  | _ => none }
def langSameRow : OpenClaim := { program := "ytchldahkcpbgcaagreatdoor", sum := "aa22231b10b6ec6b737a17026dff4a797f6507ae3ed5eb75c9ceebf5638f61dd", func := "sleuth/sleuthlaw01.LangSame", spec := "langSame", inPlace := ["internal/abi.NoEscape", "internal/bytealg.MakeNoZero"], unfollowed := true, recurses := true, named := ["strconv.ErrSyntax", "strconv.ErrRange", "internal/strconv.uint64pow10", "math/bits.deBruijn32tab", "math/bits.deBruijn64tab"], loops := true, apart := false, laid := [("math/bits.deBruijn32tab", laid_math_bits_deBruijn32tab), ("math/bits.deBruijn64tab", laid_math_bits_deBruijn64tab), ("internal/strconv.uint64pow10", laid_internal_strconv_uint64pow10), ("strconv.ErrRange", laid_strconv_ErrRange), ("strconv.ErrSyntax", laid_strconv_ErrSyntax)] }
def LangSameSaid : Prop := langSameRow.holds Tryz.pinned (OpenSpec.ofChange langSameSpec)

/-- ITS FALSE NEIGHBOUR: 'it returns false'. Refute it at one input. -/
def langSameWrong : ChangeSpec := { name := "langSame", fn := fun _ => fun
  | [d1, d2] => { results := [.lit (.bool false)], args := [d1, d2] }
  | _ => none }
def LangSameWrongFalsely : Prop := langSameRow.holds Tryz.pinned (OpenSpec.ofChange langSameWrong)

/-- 'sleuthlaw01.LangAgain': WHATEVER THE INPUT: true; the input reads as it did. -/
def langAgainSpec : ChangeSpec := { name := "langAgain", fn := fun _ => fun
  | [d] => { results := [.lit (.bool true)], args := [d] }
  | _ => none }
def langAgainRow : OpenClaim := { program := "ytchldahkcpbgcaagreatdoor", sum := "aa22231b10b6ec6b737a17026dff4a797f6507ae3ed5eb75c9ceebf5638f61dd", func := "sleuth/sleuthlaw01.LangAgain", spec := "langAgain", inPlace := ["internal/abi.NoEscape", "internal/bytealg.MakeNoZero"], unfollowed := true, recurses := true, named := ["strconv.ErrSyntax", "strconv.ErrRange", "internal/strconv.uint64pow10", "math/bits.deBruijn32tab", "math/bits.deBruijn64tab"], apart := false, laid := [("math/bits.deBruijn32tab", laid_math_bits_deBruijn32tab), ("math/bits.deBruijn64tab", laid_math_bits_deBruijn64tab), ("internal/strconv.uint64pow10", laid_internal_strconv_uint64pow10), ("strconv.ErrRange", laid_strconv_ErrRange), ("strconv.ErrSyntax", laid_strconv_ErrSyntax)] }
def LangAgainSaid : Prop := langAgainRow.holds Tryz.pinned (OpenSpec.ofChange langAgainSpec)

/-- ITS FALSE NEIGHBOUR: 'it returns false'. Refute it at one input. -/
def langAgainWrong : ChangeSpec := { name := "langAgain", fn := fun _ => fun
  | [d] => { results := [.lit (.bool false)], args := [d] }
  | _ => none }
def LangAgainWrongFalsely : Prop := langAgainRow.holds Tryz.pinned (OpenSpec.ofChange langAgainWrong)

/-- 'sleuthlaw01.LangCut': WHATEVER THE INPUT: true; the input reads as it did. -/
def langCutSpec : ChangeSpec := { name := "langCut", fn := fun _ => fun
  | [d1, d2] => { results := [.lit (.bool true)], args := [d1, d2] }
  | _ => none }
def langCutRow : OpenClaim := { program := "ytchldahkcpbgcaagreatdoor", sum := "aa22231b10b6ec6b737a17026dff4a797f6507ae3ed5eb75c9ceebf5638f61dd", func := "sleuth/sleuthlaw01.LangCut", spec := "langCut", inPlace := ["internal/abi.NoEscape", "internal/bytealg.MakeNoZero"], unfollowed := true, recurses := true, named := ["strconv.ErrSyntax", "strconv.ErrRange", "internal/strconv.uint64pow10", "math/bits.deBruijn32tab", "math/bits.deBruijn64tab"], loops := true, apart := false, laid := [("math/bits.deBruijn32tab", laid_math_bits_deBruijn32tab), ("math/bits.deBruijn64tab", laid_math_bits_deBruijn64tab), ("internal/strconv.uint64pow10", laid_internal_strconv_uint64pow10), ("strconv.ErrRange", laid_strconv_ErrRange), ("strconv.ErrSyntax", laid_strconv_ErrSyntax)] }
def LangCutSaid : Prop := langCutRow.holds Tryz.pinned (OpenSpec.ofChange langCutSpec)

/-- ITS FALSE NEIGHBOUR: 'it returns false'. Refute it at one input. -/
def langCutWrong : ChangeSpec := { name := "langCut", fn := fun _ => fun
  | [d1, d2] => { results := [.lit (.bool false)], args := [d1, d2] }
  | _ => none }
def LangCutWrongFalsely : Prop := langCutRow.holds Tryz.pinned (OpenSpec.ofChange langCutWrong)

/-- 'sleuthlaw01.LangEdits': WHATEVER THE INPUT: true; the input reads as it did. -/
def langEditsSpec : ChangeSpec := { name := "langEdits", fn := fun _ => fun
  | [d1, d2] => { results := [.lit (.bool true)], args := [d1, d2] }
  | _ => none }
def langEditsRow : OpenClaim := { program := "ytchldahkcpbgcaagreatdoor", sum := "aa22231b10b6ec6b737a17026dff4a797f6507ae3ed5eb75c9ceebf5638f61dd", func := "sleuth/sleuthlaw01.LangEdits", spec := "langEdits", inPlace := ["internal/abi.NoEscape", "internal/bytealg.MakeNoZero"], unfollowed := true, recurses := true, named := ["strconv.ErrSyntax", "strconv.ErrRange", "internal/strconv.uint64pow10", "math/bits.deBruijn32tab", "math/bits.deBruijn64tab"], loops := true, apart := false, laid := [("math/bits.deBruijn32tab", laid_math_bits_deBruijn32tab), ("math/bits.deBruijn64tab", laid_math_bits_deBruijn64tab), ("internal/strconv.uint64pow10", laid_internal_strconv_uint64pow10), ("strconv.ErrRange", laid_strconv_ErrRange), ("strconv.ErrSyntax", laid_strconv_ErrSyntax)] }
def LangEditsSaid : Prop := langEditsRow.holds Tryz.pinned (OpenSpec.ofChange langEditsSpec)

/-- ITS FALSE NEIGHBOUR: 'it returns false'. Refute it at one input. -/
def langEditsWrong : ChangeSpec := { name := "langEdits", fn := fun _ => fun
  | [d1, d2] => { results := [.lit (.bool false)], args := [d1, d2] }
  | _ => none }
def LangEditsWrongFalsely : Prop := langEditsRow.holds Tryz.pinned (OpenSpec.ofChange langEditsWrong)

/-- 'sleuthlaw01.LangNodes': WHATEVER THE INPUT: true; the input reads as it did. -/
def langNodesSpec : ChangeSpec := { name := "langNodes", fn := fun _ => fun
  | [d] => { results := [.lit (.bool true)], args := [d] }
  | _ => none }
def langNodesRow : OpenClaim := { program := "ytchldahkcpbgcaagreatdoor", sum := "aa22231b10b6ec6b737a17026dff4a797f6507ae3ed5eb75c9ceebf5638f61dd", func := "sleuth/sleuthlaw01.LangNodes", spec := "langNodes", inPlace := ["internal/abi.NoEscape", "internal/bytealg.MakeNoZero"], unfollowed := true, recurses := true, named := ["strconv.ErrSyntax", "strconv.ErrRange", "internal/strconv.uint64pow10", "math/bits.deBruijn32tab", "math/bits.deBruijn64tab"], loops := true, apart := false, laid := [("math/bits.deBruijn32tab", laid_math_bits_deBruijn32tab), ("math/bits.deBruijn64tab", laid_math_bits_deBruijn64tab), ("internal/strconv.uint64pow10", laid_internal_strconv_uint64pow10), ("strconv.ErrRange", laid_strconv_ErrRange), ("strconv.ErrSyntax", laid_strconv_ErrSyntax)] }
def LangNodesSaid : Prop := langNodesRow.holds Tryz.pinned (OpenSpec.ofChange langNodesSpec)

/-- ITS FALSE NEIGHBOUR: 'it returns false'. Refute it at one input. -/
def langNodesWrong : ChangeSpec := { name := "langNodes", fn := fun _ => fun
  | [d] => { results := [.lit (.bool false)], args := [d] }
  | _ => none }
def LangNodesWrongFalsely : Prop := langNodesRow.holds Tryz.pinned (OpenSpec.ofChange langNodesWrong)

/-- 'sleuthlaw01.LangKept': WHATEVER THE INPUT: true; the input reads as it did. -/
def langKeptSpec : ChangeSpec := { name := "langKept", fn := fun _ => fun
  | [d1, d2] => { results := [.lit (.bool true)], args := [d1, d2] }
  | _ => none }
def langKeptRow : OpenClaim := { program := "ytchldahkcpbgcaagreatdoor", sum := "aa22231b10b6ec6b737a17026dff4a797f6507ae3ed5eb75c9ceebf5638f61dd", func := "sleuth/sleuthlaw01.LangKept", spec := "langKept", inPlace := ["internal/abi.NoEscape", "internal/bytealg.MakeNoZero"], unfollowed := true, recurses := true, named := ["strconv.ErrSyntax", "strconv.ErrRange", "internal/strconv.uint64pow10", "math/bits.deBruijn32tab", "math/bits.deBruijn64tab"], loops := true, apart := false, laid := [("math/bits.deBruijn32tab", laid_math_bits_deBruijn32tab), ("math/bits.deBruijn64tab", laid_math_bits_deBruijn64tab), ("internal/strconv.uint64pow10", laid_internal_strconv_uint64pow10), ("strconv.ErrRange", laid_strconv_ErrRange), ("strconv.ErrSyntax", laid_strconv_ErrSyntax)] }
def LangKeptSaid : Prop := langKeptRow.holds Tryz.pinned (OpenSpec.ofChange langKeptSpec)

/-- ITS FALSE NEIGHBOUR: 'it returns false'. Refute it at one input. -/
def langKeptWrong : ChangeSpec := { name := "langKept", fn := fun _ => fun
  | [d1, d2] => { results := [.lit (.bool false)], args := [d1, d2] }
  | _ => none }
def LangKeptWrongFalsely : Prop := langKeptRow.holds Tryz.pinned (OpenSpec.ofChange langKeptWrong)

/-- 'sleuthlaw01.LangBack': WHATEVER THE INPUT: true; the input reads as it did. -/
def langBackSpec : ChangeSpec := { name := "langBack", fn := fun _ => fun
  | [d] => { results := [.lit (.bool true)], args := [d] }
  | _ => none }
def langBackRow : OpenClaim := { program := "ytchldahkcpbgcaagreatdoor", sum := "aa22231b10b6ec6b737a17026dff4a797f6507ae3ed5eb75c9ceebf5638f61dd", func := "sleuth/sleuthlaw01.LangBack", spec := "langBack", inPlace := ["internal/abi.NoEscape", "internal/bytealg.MakeNoZero"], unfollowed := true, recurses := true, named := ["strconv.ErrSyntax", "strconv.ErrRange", "internal/strconv.uint64pow10", "math/bits.deBruijn32tab", "math/bits.deBruijn64tab"], loops := true, apart := false, laid := [("math/bits.deBruijn32tab", laid_math_bits_deBruijn32tab), ("math/bits.deBruijn64tab", laid_math_bits_deBruijn64tab), ("internal/strconv.uint64pow10", laid_internal_strconv_uint64pow10), ("strconv.ErrRange", laid_strconv_ErrRange), ("strconv.ErrSyntax", laid_strconv_ErrSyntax)] }
def LangBackSaid : Prop := langBackRow.holds Tryz.pinned (OpenSpec.ofChange langBackSpec)

/-- ITS FALSE NEIGHBOUR: 'it returns false'. Refute it at one input. -/
def langBackWrong : ChangeSpec := { name := "langBack", fn := fun _ => fun
  | [d] => { results := [.lit (.bool false)], args := [d] }
  | _ => none }
def LangBackWrongFalsely : Prop := langBackRow.holds Tryz.pinned (OpenSpec.ofChange langBackWrong)

/-- 'sleuthlaw01.LangAny': WHATEVER THE INPUT: true; the input reads as it did. -/
def langAnySpec : ChangeSpec := { name := "langAny", fn := fun _ => fun
  | [d] => { results := [.lit (.bool true)], args := [d] }
  | _ => none }
def langAnyRow : OpenClaim := { program := "ytchldahkcpbgcaagreatdoor", sum := "aa22231b10b6ec6b737a17026dff4a797f6507ae3ed5eb75c9ceebf5638f61dd", func := "sleuth/sleuthlaw01.LangAny", spec := "langAny", inPlace := ["internal/abi.NoEscape", "internal/bytealg.MakeNoZero"], unfollowed := true, recurses := true, named := ["strconv.ErrSyntax", "strconv.ErrRange", "internal/strconv.uint64pow10", "math/bits.deBruijn32tab", "math/bits.deBruijn64tab"], loops := true, apart := false, laid := [("math/bits.deBruijn32tab", laid_math_bits_deBruijn32tab), ("math/bits.deBruijn64tab", laid_math_bits_deBruijn64tab), ("internal/strconv.uint64pow10", laid_internal_strconv_uint64pow10), ("strconv.ErrRange", laid_strconv_ErrRange), ("strconv.ErrSyntax", laid_strconv_ErrSyntax)] }
def LangAnySaid : Prop := langAnyRow.holds Tryz.pinned (OpenSpec.ofChange langAnySpec)

/-- ITS FALSE NEIGHBOUR: 'it returns false'. Refute it at one input. -/
def langAnyWrong : ChangeSpec := { name := "langAny", fn := fun _ => fun
  | [d] => { results := [.lit (.bool false)], args := [d] }
  | _ => none }
def LangAnyWrongFalsely : Prop := langAnyRow.holds Tryz.pinned (OpenSpec.ofChange langAnyWrong)

/-- 'sleuthlaw01.LangPlaces': WHATEVER THE INPUT: true; the input reads as it did. -/
def langPlacesSpec : ChangeSpec := { name := "langPlaces", fn := fun _ => fun
  | [d1, d2] => { results := [.lit (.bool true)], args := [d1, d2] }
  | _ => none }
def langPlacesRow : OpenClaim := { program := "ytchldahkcpbgcaagreatdoor", sum := "aa22231b10b6ec6b737a17026dff4a797f6507ae3ed5eb75c9ceebf5638f61dd", func := "sleuth/sleuthlaw01.LangPlaces", spec := "langPlaces", inPlace := ["internal/abi.NoEscape", "internal/bytealg.MakeNoZero"], unfollowed := true, recurses := true, named := ["strconv.ErrSyntax", "strconv.ErrRange", "internal/strconv.uint64pow10", "math/bits.deBruijn32tab", "math/bits.deBruijn64tab"], loops := true, apart := false, laid := [("math/bits.deBruijn32tab", laid_math_bits_deBruijn32tab), ("math/bits.deBruijn64tab", laid_math_bits_deBruijn64tab), ("internal/strconv.uint64pow10", laid_internal_strconv_uint64pow10), ("strconv.ErrRange", laid_strconv_ErrRange), ("strconv.ErrSyntax", laid_strconv_ErrSyntax)] }
def LangPlacesSaid : Prop := langPlacesRow.holds Tryz.pinned (OpenSpec.ofChange langPlacesSpec)

/-- ITS FALSE NEIGHBOUR: 'it returns false'. Refute it at one input. -/
def langPlacesWrong : ChangeSpec := { name := "langPlaces", fn := fun _ => fun
  | [d1, d2] => { results := [.lit (.bool false)], args := [d1, d2] }
  | _ => none }
def LangPlacesWrongFalsely : Prop := langPlacesRow.holds Tryz.pinned (OpenSpec.ofChange langPlacesWrong)

/-- 'sleuthlaw01.LangVisible': WHATEVER THE INPUT: true; the input reads as it did. -/
def langVisibleSpec : ChangeSpec := { name := "langVisible", fn := fun _ => fun
  | [d1, d2, d3] => { results := [.lit (.bool true)], args := [d1, d2, d3] }
  | _ => none }
def langVisibleRow : OpenClaim := { program := "ytchldahkcpbgcaagreatdoor", sum := "aa22231b10b6ec6b737a17026dff4a797f6507ae3ed5eb75c9ceebf5638f61dd", func := "sleuth/sleuthlaw01.LangVisible", spec := "langVisible", inPlace := ["internal/abi.NoEscape", "internal/bytealg.MakeNoZero"], unfollowed := true, recurses := true, named := ["strconv.ErrSyntax", "strconv.ErrRange", "internal/strconv.uint64pow10", "math/bits.deBruijn32tab", "math/bits.deBruijn64tab"], loops := true, apart := false, laid := [("math/bits.deBruijn32tab", laid_math_bits_deBruijn32tab), ("math/bits.deBruijn64tab", laid_math_bits_deBruijn64tab), ("internal/strconv.uint64pow10", laid_internal_strconv_uint64pow10), ("strconv.ErrRange", laid_strconv_ErrRange), ("strconv.ErrSyntax", laid_strconv_ErrSyntax)] }
def LangVisibleSaid : Prop := langVisibleRow.holds Tryz.pinned (OpenSpec.ofChange langVisibleSpec)

/-- ITS FALSE NEIGHBOUR: 'it returns false'. Refute it at one input. -/
def langVisibleWrong : ChangeSpec := { name := "langVisible", fn := fun _ => fun
  | [d1, d2, d3] => { results := [.lit (.bool false)], args := [d1, d2, d3] }
  | _ => none }
def LangVisibleWrongFalsely : Prop := langVisibleRow.holds Tryz.pinned (OpenSpec.ofChange langVisibleWrong)

/-- 'sleuthlaw01.LangKnown': WHATEVER THE INPUT: true; the input reads as it did. -/
def langKnownSpec : ChangeSpec := { name := "langKnown", fn := fun _ => fun
  | [] => { results := [.lit (.bool true)], args := [] }
  | _ => none }
def langKnownRow : OpenClaim := { program := "ytchldahkcpbgcaagreatdoor", sum := "aa22231b10b6ec6b737a17026dff4a797f6507ae3ed5eb75c9ceebf5638f61dd", func := "sleuth/sleuthlaw01.LangKnown", spec := "langKnown", inPlace := ["internal/abi.NoEscape", "internal/bytealg.MakeNoZero"], unfollowed := true, recurses := true, named := ["strconv.ErrSyntax", "strconv.ErrRange", "internal/strconv.uint64pow10", "math/bits.deBruijn32tab", "math/bits.deBruijn64tab"], apart := false, laid := [("math/bits.deBruijn32tab", laid_math_bits_deBruijn32tab), ("math/bits.deBruijn64tab", laid_math_bits_deBruijn64tab), ("internal/strconv.uint64pow10", laid_internal_strconv_uint64pow10), ("strconv.ErrRange", laid_strconv_ErrRange), ("strconv.ErrSyntax", laid_strconv_ErrSyntax)] }
def LangKnownSaid : Prop := langKnownRow.holds Tryz.pinned (OpenSpec.ofChange langKnownSpec)

/-- ITS FALSE NEIGHBOUR: 'it returns false'. Refute it at one input. -/
def langKnownWrong : ChangeSpec := { name := "langKnown", fn := fun _ => fun
  | [] => { results := [.lit (.bool false)], args := [] }
  | _ => none }
def LangKnownWrongFalsely : Prop := langKnownRow.holds Tryz.pinned (OpenSpec.ofChange langKnownWrong)

/- THE SECOND FORM. 'bulk': how many values and letters a reading holds, each counted each time it is reached (what is shared counts as often as it is met; a slice's spare places count too). A statement '..UptoSaid' is the law's where the arguments, and the package variables that the reading takes, are together of bulk at most 1048576: NARROWER than '..Said'. Prove '..Said' where nothing that the law and all that it calls make is longer than what came in: it says more and counts as full. Else prove '..UptoSaid'. A law counts once. -/
mutual
def uptoBulk {H : Type} : DataW H → Nat
  | .lit (.string bytes) => bytes.length + 1
  | .lit _ => 1
  | .nil => 1
  | .ptr d => uptoBulk d + 1
  | .slice elems spare => uptoBulkAll elems + uptoBulkAll spare + 1
  | .agg parts => uptoBulkAll parts + 1
  | .iface _ d => uptoBulk d + 1
  | .map entries => uptoBulkEntries entries + 1
  | .held _ => 1
def uptoBulkAll {H : Type} : List (DataW H) → Nat
  | [] => 0
  | d :: r => uptoBulk d + uptoBulkAll r
def uptoBulkEntries {H : Type} : List (Lit × DataW H) → Nat
  | [] => 0
  | x :: r => uptoBulkEntry x + uptoBulkEntries r
def uptoBulkEntry {H : Type} : Lit × DataW H → Nat
  | (.string bytes, d) => bytes.length + uptoBulk d + 1
  | (_, d) => uptoBulk d + 1
 end
def uptoSmall : (H : Type) → List (DataW H) → Bool := fun _ ds => decide (uptoBulkAll ds ≤ 1048576)
def OpenSpec.upto (s : _root_.Go.ChangeSpec) : _root_.Go.OpenSpec := { _root_.Go.OpenSpec.ofChange s with cond := some uptoSmall }

/-- 'sleuthlaw01.LangTexts', WHERE WHAT IT READS IS OF BULK AT MOST 1048576: true; the input reads as it did. -/
def langTextsUptoRow : OpenClaim := { program := "ytchldahkcpbgcaagreatdoor", sum := "aa22231b10b6ec6b737a17026dff4a797f6507ae3ed5eb75c9ceebf5638f61dd", func := "sleuth/sleuthlaw01.LangTexts", spec := "langTexts", inPlace := ["internal/abi.NoEscape", "internal/bytealg.MakeNoZero"], unfollowed := true, recurses := true, named := ["strconv.ErrSyntax", "strconv.ErrRange", "internal/strconv.uint64pow10", "math/bits.deBruijn32tab", "math/bits.deBruijn64tab"], apart := false, laid := [("math/bits.deBruijn32tab", laid_math_bits_deBruijn32tab), ("math/bits.deBruijn64tab", laid_math_bits_deBruijn64tab), ("internal/strconv.uint64pow10", laid_internal_strconv_uint64pow10), ("strconv.ErrRange", laid_strconv_ErrRange), ("strconv.ErrSyntax", laid_strconv_ErrSyntax)], narrowed := true }
def LangTextsUptoSaid : Prop := langTextsUptoRow.holds Tryz.pinned (OpenSpec.upto langTextsSpec)

/-- 'sleuthlaw01.LangStrings', WHERE WHAT IT READS IS OF BULK AT MOST 1048576: true; the input reads as it did. -/
def langStringsUptoRow : OpenClaim := { program := "ytchldahkcpbgcaagreatdoor", sum := "aa22231b10b6ec6b737a17026dff4a797f6507ae3ed5eb75c9ceebf5638f61dd", func := "sleuth/sleuthlaw01.LangStrings", spec := "langStrings", inPlace := ["internal/abi.NoEscape", "internal/bytealg.MakeNoZero"], unfollowed := true, recurses := true, named := ["strconv.ErrSyntax", "strconv.ErrRange", "internal/strconv.uint64pow10", "math/bits.deBruijn32tab", "math/bits.deBruijn64tab"], apart := false, laid := [("math/bits.deBruijn32tab", laid_math_bits_deBruijn32tab), ("math/bits.deBruijn64tab", laid_math_bits_deBruijn64tab), ("internal/strconv.uint64pow10", laid_internal_strconv_uint64pow10), ("strconv.ErrRange", laid_strconv_ErrRange), ("strconv.ErrSyntax", laid_strconv_ErrSyntax)], narrowed := true }
def LangStringsUptoSaid : Prop := langStringsUptoRow.holds Tryz.pinned (OpenSpec.upto langStringsSpec)

/-- 'sleuthlaw01.LangSame', WHERE WHAT IT READS IS OF BULK AT MOST 1048576: true; the input reads as it did. -/
def langSameUptoRow : OpenClaim := { program := "ytchldahkcpbgcaagreatdoor", sum := "aa22231b10b6ec6b737a17026dff4a797f6507ae3ed5eb75c9ceebf5638f61dd", func := "sleuth/sleuthlaw01.LangSame", spec := "langSame", inPlace := ["internal/abi.NoEscape", "internal/bytealg.MakeNoZero"], unfollowed := true, recurses := true, named := ["strconv.ErrSyntax", "strconv.ErrRange", "internal/strconv.uint64pow10", "math/bits.deBruijn32tab", "math/bits.deBruijn64tab"], loops := true, apart := false, laid := [("math/bits.deBruijn32tab", laid_math_bits_deBruijn32tab), ("math/bits.deBruijn64tab", laid_math_bits_deBruijn64tab), ("internal/strconv.uint64pow10", laid_internal_strconv_uint64pow10), ("strconv.ErrRange", laid_strconv_ErrRange), ("strconv.ErrSyntax", laid_strconv_ErrSyntax)], narrowed := true }
def LangSameUptoSaid : Prop := langSameUptoRow.holds Tryz.pinned (OpenSpec.upto langSameSpec)

/-- 'sleuthlaw01.LangAgain', WHERE WHAT IT READS IS OF BULK AT MOST 1048576: true; the input reads as it did. -/
def langAgainUptoRow : OpenClaim := { program := "ytchldahkcpbgcaagreatdoor", sum := "aa22231b10b6ec6b737a17026dff4a797f6507ae3ed5eb75c9ceebf5638f61dd", func := "sleuth/sleuthlaw01.LangAgain", spec := "langAgain", inPlace := ["internal/abi.NoEscape", "internal/bytealg.MakeNoZero"], unfollowed := true, recurses := true, named := ["strconv.ErrSyntax", "strconv.ErrRange", "internal/strconv.uint64pow10", "math/bits.deBruijn32tab", "math/bits.deBruijn64tab"], apart := false, laid := [("math/bits.deBruijn32tab", laid_math_bits_deBruijn32tab), ("math/bits.deBruijn64tab", laid_math_bits_deBruijn64tab), ("internal/strconv.uint64pow10", laid_internal_strconv_uint64pow10), ("strconv.ErrRange", laid_strconv_ErrRange), ("strconv.ErrSyntax", laid_strconv_ErrSyntax)], narrowed := true }
def LangAgainUptoSaid : Prop := langAgainUptoRow.holds Tryz.pinned (OpenSpec.upto langAgainSpec)

/-- 'sleuthlaw01.LangCut', WHERE WHAT IT READS IS OF BULK AT MOST 1048576: true; the input reads as it did. -/
def langCutUptoRow : OpenClaim := { program := "ytchldahkcpbgcaagreatdoor", sum := "aa22231b10b6ec6b737a17026dff4a797f6507ae3ed5eb75c9ceebf5638f61dd", func := "sleuth/sleuthlaw01.LangCut", spec := "langCut", inPlace := ["internal/abi.NoEscape", "internal/bytealg.MakeNoZero"], unfollowed := true, recurses := true, named := ["strconv.ErrSyntax", "strconv.ErrRange", "internal/strconv.uint64pow10", "math/bits.deBruijn32tab", "math/bits.deBruijn64tab"], loops := true, apart := false, laid := [("math/bits.deBruijn32tab", laid_math_bits_deBruijn32tab), ("math/bits.deBruijn64tab", laid_math_bits_deBruijn64tab), ("internal/strconv.uint64pow10", laid_internal_strconv_uint64pow10), ("strconv.ErrRange", laid_strconv_ErrRange), ("strconv.ErrSyntax", laid_strconv_ErrSyntax)], narrowed := true }
def LangCutUptoSaid : Prop := langCutUptoRow.holds Tryz.pinned (OpenSpec.upto langCutSpec)

/-- 'sleuthlaw01.LangEdits', WHERE WHAT IT READS IS OF BULK AT MOST 1048576: true; the input reads as it did. -/
def langEditsUptoRow : OpenClaim := { program := "ytchldahkcpbgcaagreatdoor", sum := "aa22231b10b6ec6b737a17026dff4a797f6507ae3ed5eb75c9ceebf5638f61dd", func := "sleuth/sleuthlaw01.LangEdits", spec := "langEdits", inPlace := ["internal/abi.NoEscape", "internal/bytealg.MakeNoZero"], unfollowed := true, recurses := true, named := ["strconv.ErrSyntax", "strconv.ErrRange", "internal/strconv.uint64pow10", "math/bits.deBruijn32tab", "math/bits.deBruijn64tab"], loops := true, apart := false, laid := [("math/bits.deBruijn32tab", laid_math_bits_deBruijn32tab), ("math/bits.deBruijn64tab", laid_math_bits_deBruijn64tab), ("internal/strconv.uint64pow10", laid_internal_strconv_uint64pow10), ("strconv.ErrRange", laid_strconv_ErrRange), ("strconv.ErrSyntax", laid_strconv_ErrSyntax)], narrowed := true }
def LangEditsUptoSaid : Prop := langEditsUptoRow.holds Tryz.pinned (OpenSpec.upto langEditsSpec)

/-- 'sleuthlaw01.LangNodes', WHERE WHAT IT READS IS OF BULK AT MOST 1048576: true; the input reads as it did. -/
def langNodesUptoRow : OpenClaim := { program := "ytchldahkcpbgcaagreatdoor", sum := "aa22231b10b6ec6b737a17026dff4a797f6507ae3ed5eb75c9ceebf5638f61dd", func := "sleuth/sleuthlaw01.LangNodes", spec := "langNodes", inPlace := ["internal/abi.NoEscape", "internal/bytealg.MakeNoZero"], unfollowed := true, recurses := true, named := ["strconv.ErrSyntax", "strconv.ErrRange", "internal/strconv.uint64pow10", "math/bits.deBruijn32tab", "math/bits.deBruijn64tab"], loops := true, apart := false, laid := [("math/bits.deBruijn32tab", laid_math_bits_deBruijn32tab), ("math/bits.deBruijn64tab", laid_math_bits_deBruijn64tab), ("internal/strconv.uint64pow10", laid_internal_strconv_uint64pow10), ("strconv.ErrRange", laid_strconv_ErrRange), ("strconv.ErrSyntax", laid_strconv_ErrSyntax)], narrowed := true }
def LangNodesUptoSaid : Prop := langNodesUptoRow.holds Tryz.pinned (OpenSpec.upto langNodesSpec)

/-- 'sleuthlaw01.LangKept', WHERE WHAT IT READS IS OF BULK AT MOST 1048576: true; the input reads as it did. -/
def langKeptUptoRow : OpenClaim := { program := "ytchldahkcpbgcaagreatdoor", sum := "aa22231b10b6ec6b737a17026dff4a797f6507ae3ed5eb75c9ceebf5638f61dd", func := "sleuth/sleuthlaw01.LangKept", spec := "langKept", inPlace := ["internal/abi.NoEscape", "internal/bytealg.MakeNoZero"], unfollowed := true, recurses := true, named := ["strconv.ErrSyntax", "strconv.ErrRange", "internal/strconv.uint64pow10", "math/bits.deBruijn32tab", "math/bits.deBruijn64tab"], loops := true, apart := false, laid := [("math/bits.deBruijn32tab", laid_math_bits_deBruijn32tab), ("math/bits.deBruijn64tab", laid_math_bits_deBruijn64tab), ("internal/strconv.uint64pow10", laid_internal_strconv_uint64pow10), ("strconv.ErrRange", laid_strconv_ErrRange), ("strconv.ErrSyntax", laid_strconv_ErrSyntax)], narrowed := true }
def LangKeptUptoSaid : Prop := langKeptUptoRow.holds Tryz.pinned (OpenSpec.upto langKeptSpec)

/-- 'sleuthlaw01.LangBack', WHERE WHAT IT READS IS OF BULK AT MOST 1048576: true; the input reads as it did. -/
def langBackUptoRow : OpenClaim := { program := "ytchldahkcpbgcaagreatdoor", sum := "aa22231b10b6ec6b737a17026dff4a797f6507ae3ed5eb75c9ceebf5638f61dd", func := "sleuth/sleuthlaw01.LangBack", spec := "langBack", inPlace := ["internal/abi.NoEscape", "internal/bytealg.MakeNoZero"], unfollowed := true, recurses := true, named := ["strconv.ErrSyntax", "strconv.ErrRange", "internal/strconv.uint64pow10", "math/bits.deBruijn32tab", "math/bits.deBruijn64tab"], loops := true, apart := false, laid := [("math/bits.deBruijn32tab", laid_math_bits_deBruijn32tab), ("math/bits.deBruijn64tab", laid_math_bits_deBruijn64tab), ("internal/strconv.uint64pow10", laid_internal_strconv_uint64pow10), ("strconv.ErrRange", laid_strconv_ErrRange), ("strconv.ErrSyntax", laid_strconv_ErrSyntax)], narrowed := true }
def LangBackUptoSaid : Prop := langBackUptoRow.holds Tryz.pinned (OpenSpec.upto langBackSpec)

/-- 'sleuthlaw01.LangAny', WHERE WHAT IT READS IS OF BULK AT MOST 1048576: true; the input reads as it did. -/
def langAnyUptoRow : OpenClaim := { program := "ytchldahkcpbgcaagreatdoor", sum := "aa22231b10b6ec6b737a17026dff4a797f6507ae3ed5eb75c9ceebf5638f61dd", func := "sleuth/sleuthlaw01.LangAny", spec := "langAny", inPlace := ["internal/abi.NoEscape", "internal/bytealg.MakeNoZero"], unfollowed := true, recurses := true, named := ["strconv.ErrSyntax", "strconv.ErrRange", "internal/strconv.uint64pow10", "math/bits.deBruijn32tab", "math/bits.deBruijn64tab"], loops := true, apart := false, laid := [("math/bits.deBruijn32tab", laid_math_bits_deBruijn32tab), ("math/bits.deBruijn64tab", laid_math_bits_deBruijn64tab), ("internal/strconv.uint64pow10", laid_internal_strconv_uint64pow10), ("strconv.ErrRange", laid_strconv_ErrRange), ("strconv.ErrSyntax", laid_strconv_ErrSyntax)], narrowed := true }
def LangAnyUptoSaid : Prop := langAnyUptoRow.holds Tryz.pinned (OpenSpec.upto langAnySpec)

/-- 'sleuthlaw01.LangPlaces', WHERE WHAT IT READS IS OF BULK AT MOST 1048576: true; the input reads as it did. -/
def langPlacesUptoRow : OpenClaim := { program := "ytchldahkcpbgcaagreatdoor", sum := "aa22231b10b6ec6b737a17026dff4a797f6507ae3ed5eb75c9ceebf5638f61dd", func := "sleuth/sleuthlaw01.LangPlaces", spec := "langPlaces", inPlace := ["internal/abi.NoEscape", "internal/bytealg.MakeNoZero"], unfollowed := true, recurses := true, named := ["strconv.ErrSyntax", "strconv.ErrRange", "internal/strconv.uint64pow10", "math/bits.deBruijn32tab", "math/bits.deBruijn64tab"], loops := true, apart := false, laid := [("math/bits.deBruijn32tab", laid_math_bits_deBruijn32tab), ("math/bits.deBruijn64tab", laid_math_bits_deBruijn64tab), ("internal/strconv.uint64pow10", laid_internal_strconv_uint64pow10), ("strconv.ErrRange", laid_strconv_ErrRange), ("strconv.ErrSyntax", laid_strconv_ErrSyntax)], narrowed := true }
def LangPlacesUptoSaid : Prop := langPlacesUptoRow.holds Tryz.pinned (OpenSpec.upto langPlacesSpec)

/-- 'sleuthlaw01.LangVisible', WHERE WHAT IT READS IS OF BULK AT MOST 1048576: true; the input reads as it did. -/
def langVisibleUptoRow : OpenClaim := { program := "ytchldahkcpbgcaagreatdoor", sum := "aa22231b10b6ec6b737a17026dff4a797f6507ae3ed5eb75c9ceebf5638f61dd", func := "sleuth/sleuthlaw01.LangVisible", spec := "langVisible", inPlace := ["internal/abi.NoEscape", "internal/bytealg.MakeNoZero"], unfollowed := true, recurses := true, named := ["strconv.ErrSyntax", "strconv.ErrRange", "internal/strconv.uint64pow10", "math/bits.deBruijn32tab", "math/bits.deBruijn64tab"], loops := true, apart := false, laid := [("math/bits.deBruijn32tab", laid_math_bits_deBruijn32tab), ("math/bits.deBruijn64tab", laid_math_bits_deBruijn64tab), ("internal/strconv.uint64pow10", laid_internal_strconv_uint64pow10), ("strconv.ErrRange", laid_strconv_ErrRange), ("strconv.ErrSyntax", laid_strconv_ErrSyntax)], narrowed := true }
def LangVisibleUptoSaid : Prop := langVisibleUptoRow.holds Tryz.pinned (OpenSpec.upto langVisibleSpec)

/-- 'sleuthlaw01.LangKnown', WHERE WHAT IT READS IS OF BULK AT MOST 1048576: true; the input reads as it did. -/
def langKnownUptoRow : OpenClaim := { program := "ytchldahkcpbgcaagreatdoor", sum := "aa22231b10b6ec6b737a17026dff4a797f6507ae3ed5eb75c9ceebf5638f61dd", func := "sleuth/sleuthlaw01.LangKnown", spec := "langKnown", inPlace := ["internal/abi.NoEscape", "internal/bytealg.MakeNoZero"], unfollowed := true, recurses := true, named := ["strconv.ErrSyntax", "strconv.ErrRange", "internal/strconv.uint64pow10", "math/bits.deBruijn32tab", "math/bits.deBruijn64tab"], apart := false, laid := [("math/bits.deBruijn32tab", laid_math_bits_deBruijn32tab), ("math/bits.deBruijn64tab", laid_math_bits_deBruijn64tab), ("internal/strconv.uint64pow10", laid_internal_strconv_uint64pow10), ("strconv.ErrRange", laid_strconv_ErrRange), ("strconv.ErrSyntax", laid_strconv_ErrSyntax)], narrowed := true }
def LangKnownUptoSaid : Prop := langKnownUptoRow.holds Tryz.pinned (OpenSpec.upto langKnownSpec)

end Rows
end Go.Proofs.YtchldahkcpbgcaaGreatDoor
