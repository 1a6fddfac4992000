/-
  NARROWER THAN 'FOR EVERY INPUT', by the rows' own cells (each row's printed sentence says how): ReduceChunks: laid · ReduceRemovable: laid · ReduceSets: laid · ReduceScheduleMinimal: laid · ReduceChangesMinimal: laid · ReduceSchedules: laid · ReduceNeeds: laid · ReduceMinimal: laid · ReduceUnique: laid · ReduceOnce: laid · ReduceIsolated: laid · ReduceSurplus: laid.
  DERIVED. THE GIVEN ROWS OF THIS SEAT. 12 by the template 'for every input the law returns true; each argument reads behind the call as it read before'; 0 by the template 'total and deterministic' (their statements: YtjpbmbonccenfaaDoorTotals.lean).
  GIVEN WITH THE SEED: the statements are not yours to turn. If you find one false, say at which input.
  Laid BY PROGRAM, IN A SANDBOX (cutbox-rows.mjs): the forced cells as the released guide's own fill.sh prints them over the translation 1a39f85b4579942b… (all of the seat's roots in one cut). By AI agents, Wed Nov 11 2026. No macro, syntax, notation, axiom, sorry.
-/
import Derived.Test.YtjpbmbonccenfaaDoorChecked
import GoSem.Claim
import GoSem.ClaimJoined
import GoSem.ClaimMapViews
import Derived.JoinedTies
import Derived.KernelRfl
namespace Go.Proofs.YtjpbmbonccenfaaDoor
/- THE CELL 'sum', in the pinned program and in every row, IS THE sha256 OF THE DUMP (.gsa) THAT YtjpbmbonccenfaaDoorProg.lean LOADS. Nothing in Lean hashes anything: it is a label: what it is worth is what the hold of that sum in a sandbox is worth. -/
noncomputable def Tryd.pinned : Pinned := { name := "ytjpbmbonccenfaadoor", sum := "1a39f85b4579942b8f221727d249fc6d9cf34f1270ae6554e716bcfa003668a0", checked := Tryd.checked }
namespace Rows
def none {H : Type} : Left H := { results := [], args := [] }

/- WHAT THE LISTED PACKAGE-LEVEL VARIABLES READ AS WHEN THE CALL BEGINS. Each datum BY PROGRAM (the guide's laid-datum.mjs) off the statement by which the dump's own 'gosem.cut.vars' lays the variable. In a bare row this is a premise. The card (YtjpbmbonccenfaaDoorCards.lean) ties it to the program's text. -/
def laid_math_bits_deBruijn32tab {H : Type} : DataW H := .agg [.lit (.int .u8 0), .lit (.int .u8 1), .lit (.int .u8 28), .lit (.int .u8 2), .lit (.int .u8 29), .lit (.int .u8 14), .lit (.int .u8 24), .lit (.int .u8 3), .lit (.int .u8 30), .lit (.int .u8 22), .lit (.int .u8 20), .lit (.int .u8 15), .lit (.int .u8 25), .lit (.int .u8 17), .lit (.int .u8 4), .lit (.int .u8 8), .lit (.int .u8 31), .lit (.int .u8 27), .lit (.int .u8 13), .lit (.int .u8 23), .lit (.int .u8 21), .lit (.int .u8 19), .lit (.int .u8 16), .lit (.int .u8 7), .lit (.int .u8 26), .lit (.int .u8 12), .lit (.int .u8 18), .lit (.int .u8 6), .lit (.int .u8 11), .lit (.int .u8 5), .lit (.int .u8 10), .lit (.int .u8 9)]
def laid_math_bits_deBruijn64tab {H : Type} : DataW H := .agg [.lit (.int .u8 0), .lit (.int .u8 1), .lit (.int .u8 56), .lit (.int .u8 2), .lit (.int .u8 57), .lit (.int .u8 49), .lit (.int .u8 28), .lit (.int .u8 3), .lit (.int .u8 61), .lit (.int .u8 58), .lit (.int .u8 42), .lit (.int .u8 50), .lit (.int .u8 38), .lit (.int .u8 29), .lit (.int .u8 17), .lit (.int .u8 4), .lit (.int .u8 62), .lit (.int .u8 47), .lit (.int .u8 59), .lit (.int .u8 36), .lit (.int .u8 45), .lit (.int .u8 43), .lit (.int .u8 51), .lit (.int .u8 22), .lit (.int .u8 53), .lit (.int .u8 39), .lit (.int .u8 33), .lit (.int .u8 30), .lit (.int .u8 24), .lit (.int .u8 18), .lit (.int .u8 12), .lit (.int .u8 5), .lit (.int .u8 63), .lit (.int .u8 55), .lit (.int .u8 48), .lit (.int .u8 27), .lit (.int .u8 60), .lit (.int .u8 41), .lit (.int .u8 37), .lit (.int .u8 16), .lit (.int .u8 46), .lit (.int .u8 35), .lit (.int .u8 44), .lit (.int .u8 21), .lit (.int .u8 52), .lit (.int .u8 32), .lit (.int .u8 23), .lit (.int .u8 11), .lit (.int .u8 54), .lit (.int .u8 26), .lit (.int .u8 40), .lit (.int .u8 15), .lit (.int .u8 34), .lit (.int .u8 20), .lit (.int .u8 31), .lit (.int .u8 10), .lit (.int .u8 25), .lit (.int .u8 14), .lit (.int .u8 19), .lit (.int .u8 9), .lit (.int .u8 13), .lit (.int .u8 8), .lit (.int .u8 7), .lit (.int .u8 6)]
def laid_internal_strconv_uint64pow10 {H : Type} : DataW H := .agg [.lit (.int .u64 1), .lit (.int .u64 10), .lit (.int .u64 100), .lit (.int .u64 1000), .lit (.int .u64 10000), .lit (.int .u64 100000), .lit (.int .u64 1000000), .lit (.int .u64 10000000), .lit (.int .u64 100000000), .lit (.int .u64 1000000000), .lit (.int .u64 10000000000), .lit (.int .u64 100000000000), .lit (.int .u64 1000000000000), .lit (.int .u64 10000000000000), .lit (.int .u64 100000000000000), .lit (.int .u64 1000000000000000), .lit (.int .u64 10000000000000000), .lit (.int .u64 100000000000000000), .lit (.int .u64 1000000000000000000), .lit (.int .u64 10000000000000000000)]

/-- 'sleuthlaw06.ReduceChunks': WHATEVER THE INPUT: true; the input reads as it did. -/
def reduceChunksSpec : ChangeSpec := { name := "reduceChunks", fn := fun _ => fun
  | [d1, d2] => { results := [.lit (.bool true)], args := [d1, d2] }
  | _ => none }
def reduceChunksRow : OpenClaim := { program := "ytjpbmbonccenfaadoor", sum := "1a39f85b4579942b8f221727d249fc6d9cf34f1270ae6554e716bcfa003668a0", func := "sleuth/sleuthlaw06.ReduceChunks", spec := "reduceChunks", unfollowed := true, recurses := true, named := ["internal/strconv.uint64pow10", "math/bits.deBruijn32tab", "math/bits.deBruijn64tab"], apart := false, laid := [("math/bits.deBruijn32tab", laid_math_bits_deBruijn32tab), ("math/bits.deBruijn64tab", laid_math_bits_deBruijn64tab), ("internal/strconv.uint64pow10", laid_internal_strconv_uint64pow10)] }
def ReduceChunksSaid : Prop := reduceChunksRow.holds Tryd.pinned (OpenSpec.ofChange reduceChunksSpec)

/-- ITS FALSE NEIGHBOUR: 'it returns false'. Refute it at one input. -/
def reduceChunksWrong : ChangeSpec := { name := "reduceChunks", fn := fun _ => fun
  | [d1, d2] => { results := [.lit (.bool false)], args := [d1, d2] }
  | _ => none }
def ReduceChunksWrongFalsely : Prop := reduceChunksRow.holds Tryd.pinned (OpenSpec.ofChange reduceChunksWrong)

/-- 'sleuthlaw06.ReduceRemovable': WHATEVER THE INPUT: true; the input reads as it did. -/
def reduceRemovableSpec : ChangeSpec := { name := "reduceRemovable", fn := fun _ => fun
  | [d1, d2] => { results := [.lit (.bool true)], args := [d1, d2] }
  | _ => none }
def reduceRemovableRow : OpenClaim := { program := "ytjpbmbonccenfaadoor", sum := "1a39f85b4579942b8f221727d249fc6d9cf34f1270ae6554e716bcfa003668a0", func := "sleuth/sleuthlaw06.ReduceRemovable", spec := "reduceRemovable", unfollowed := true, recurses := true, named := ["internal/strconv.uint64pow10", "math/bits.deBruijn32tab", "math/bits.deBruijn64tab"], apart := false, laid := [("math/bits.deBruijn32tab", laid_math_bits_deBruijn32tab), ("math/bits.deBruijn64tab", laid_math_bits_deBruijn64tab), ("internal/strconv.uint64pow10", laid_internal_strconv_uint64pow10)] }
def ReduceRemovableSaid : Prop := reduceRemovableRow.holds Tryd.pinned (OpenSpec.ofChange reduceRemovableSpec)

/-- ITS FALSE NEIGHBOUR: 'it returns false'. Refute it at one input. -/
def reduceRemovableWrong : ChangeSpec := { name := "reduceRemovable", fn := fun _ => fun
  | [d1, d2] => { results := [.lit (.bool false)], args := [d1, d2] }
  | _ => none }
def ReduceRemovableWrongFalsely : Prop := reduceRemovableRow.holds Tryd.pinned (OpenSpec.ofChange reduceRemovableWrong)

/-- 'sleuthlaw06.ReduceSets': WHATEVER THE INPUT: true; the input reads as it did. -/
def reduceSetsSpec : ChangeSpec := { name := "reduceSets", fn := fun _ => fun
  | [d1, d2, d3, d4] => { results := [.lit (.bool true)], args := [d1, d2, d3, d4] }
  | _ => none }
def reduceSetsRow : OpenClaim := { program := "ytjpbmbonccenfaadoor", sum := "1a39f85b4579942b8f221727d249fc6d9cf34f1270ae6554e716bcfa003668a0", func := "sleuth/sleuthlaw06.ReduceSets", spec := "reduceSets", unfollowed := true, recurses := true, named := ["internal/strconv.uint64pow10", "math/bits.deBruijn32tab", "math/bits.deBruijn64tab"], apart := false, laid := [("math/bits.deBruijn32tab", laid_math_bits_deBruijn32tab), ("math/bits.deBruijn64tab", laid_math_bits_deBruijn64tab), ("internal/strconv.uint64pow10", laid_internal_strconv_uint64pow10)] }
def ReduceSetsSaid : Prop := reduceSetsRow.holds Tryd.pinned (OpenSpec.ofChange reduceSetsSpec)

/-- ITS FALSE NEIGHBOUR: 'it returns false'. Refute it at one input. -/
def reduceSetsWrong : ChangeSpec := { name := "reduceSets", fn := fun _ => fun
  | [d1, d2, d3, d4] => { results := [.lit (.bool false)], args := [d1, d2, d3, d4] }
  | _ => none }
def ReduceSetsWrongFalsely : Prop := reduceSetsRow.holds Tryd.pinned (OpenSpec.ofChange reduceSetsWrong)

/-- 'sleuthlaw06.ReduceScheduleMinimal': WHATEVER THE INPUT: true; the input reads as it did. -/
def reduceScheduleMinimalSpec : ChangeSpec := { name := "reduceScheduleMinimal", fn := fun _ => fun
  | [d1, d2] => { results := [.lit (.bool true)], args := [d1, d2] }
  | _ => none }
def reduceScheduleMinimalRow : OpenClaim := { program := "ytjpbmbonccenfaadoor", sum := "1a39f85b4579942b8f221727d249fc6d9cf34f1270ae6554e716bcfa003668a0", func := "sleuth/sleuthlaw06.ReduceScheduleMinimal", spec := "reduceScheduleMinimal", unfollowed := true, recurses := true, named := ["internal/strconv.uint64pow10", "math/bits.deBruijn32tab", "math/bits.deBruijn64tab"], apart := false, laid := [("math/bits.deBruijn32tab", laid_math_bits_deBruijn32tab), ("math/bits.deBruijn64tab", laid_math_bits_deBruijn64tab), ("internal/strconv.uint64pow10", laid_internal_strconv_uint64pow10)] }
def ReduceScheduleMinimalSaid : Prop := reduceScheduleMinimalRow.holds Tryd.pinned (OpenSpec.ofChange reduceScheduleMinimalSpec)

/-- ITS FALSE NEIGHBOUR: 'it returns false'. Refute it at one input. -/
def reduceScheduleMinimalWrong : ChangeSpec := { name := "reduceScheduleMinimal", fn := fun _ => fun
  | [d1, d2] => { results := [.lit (.bool false)], args := [d1, d2] }
  | _ => none }
def ReduceScheduleMinimalWrongFalsely : Prop := reduceScheduleMinimalRow.holds Tryd.pinned (OpenSpec.ofChange reduceScheduleMinimalWrong)

/-- 'sleuthlaw06.ReduceChangesMinimal': WHATEVER THE INPUT: true; the input reads as it did. -/
def reduceChangesMinimalSpec : ChangeSpec := { name := "reduceChangesMinimal", fn := fun _ => fun
  | [d1, d2] => { results := [.lit (.bool true)], args := [d1, d2] }
  | _ => none }
def reduceChangesMinimalRow : OpenClaim := { program := "ytjpbmbonccenfaadoor", sum := "1a39f85b4579942b8f221727d249fc6d9cf34f1270ae6554e716bcfa003668a0", func := "sleuth/sleuthlaw06.ReduceChangesMinimal", spec := "reduceChangesMinimal", unfollowed := true, recurses := true, named := ["internal/strconv.uint64pow10", "math/bits.deBruijn32tab", "math/bits.deBruijn64tab"], apart := false, laid := [("math/bits.deBruijn32tab", laid_math_bits_deBruijn32tab), ("math/bits.deBruijn64tab", laid_math_bits_deBruijn64tab), ("internal/strconv.uint64pow10", laid_internal_strconv_uint64pow10)] }
def ReduceChangesMinimalSaid : Prop := reduceChangesMinimalRow.holds Tryd.pinned (OpenSpec.ofChange reduceChangesMinimalSpec)

/-- ITS FALSE NEIGHBOUR: 'it returns false'. Refute it at one input. -/
def reduceChangesMinimalWrong : ChangeSpec := { name := "reduceChangesMinimal", fn := fun _ => fun
  | [d1, d2] => { results := [.lit (.bool false)], args := [d1, d2] }
  | _ => none }
def ReduceChangesMinimalWrongFalsely : Prop := reduceChangesMinimalRow.holds Tryd.pinned (OpenSpec.ofChange reduceChangesMinimalWrong)

/-- 'sleuthlaw06.ReduceSchedules': WHATEVER THE INPUT: true; the input reads as it did. -/
def reduceSchedulesSpec : ChangeSpec := { name := "reduceSchedules", fn := fun _ => fun
  | [d1, d2, d3] => { results := [.lit (.bool true)], args := [d1, d2, d3] }
  | _ => none }
def reduceSchedulesRow : OpenClaim := { program := "ytjpbmbonccenfaadoor", sum := "1a39f85b4579942b8f221727d249fc6d9cf34f1270ae6554e716bcfa003668a0", func := "sleuth/sleuthlaw06.ReduceSchedules", spec := "reduceSchedules", unfollowed := true, recurses := true, named := ["internal/strconv.uint64pow10", "math/bits.deBruijn32tab", "math/bits.deBruijn64tab"], apart := false, laid := [("math/bits.deBruijn32tab", laid_math_bits_deBruijn32tab), ("math/bits.deBruijn64tab", laid_math_bits_deBruijn64tab), ("internal/strconv.uint64pow10", laid_internal_strconv_uint64pow10)] }
def ReduceSchedulesSaid : Prop := reduceSchedulesRow.holds Tryd.pinned (OpenSpec.ofChange reduceSchedulesSpec)

/-- ITS FALSE NEIGHBOUR: 'it returns false'. Refute it at one input. -/
def reduceSchedulesWrong : ChangeSpec := { name := "reduceSchedules", fn := fun _ => fun
  | [d1, d2, d3] => { results := [.lit (.bool false)], args := [d1, d2, d3] }
  | _ => none }
def ReduceSchedulesWrongFalsely : Prop := reduceSchedulesRow.holds Tryd.pinned (OpenSpec.ofChange reduceSchedulesWrong)

/-- 'sleuthlaw06.ReduceNeeds': WHATEVER THE INPUT: true; the input reads as it did. -/
def reduceNeedsSpec : ChangeSpec := { name := "reduceNeeds", fn := fun _ => fun
  | [d1, d2, d3, d4] => { results := [.lit (.bool true)], args := [d1, d2, d3, d4] }
  | _ => none }
def reduceNeedsRow : OpenClaim := { program := "ytjpbmbonccenfaadoor", sum := "1a39f85b4579942b8f221727d249fc6d9cf34f1270ae6554e716bcfa003668a0", func := "sleuth/sleuthlaw06.ReduceNeeds", spec := "reduceNeeds", unfollowed := true, recurses := true, named := ["internal/strconv.uint64pow10", "math/bits.deBruijn32tab", "math/bits.deBruijn64tab"], apart := false, laid := [("math/bits.deBruijn32tab", laid_math_bits_deBruijn32tab), ("math/bits.deBruijn64tab", laid_math_bits_deBruijn64tab), ("internal/strconv.uint64pow10", laid_internal_strconv_uint64pow10)] }
def ReduceNeedsSaid : Prop := reduceNeedsRow.holds Tryd.pinned (OpenSpec.ofChange reduceNeedsSpec)

/-- ITS FALSE NEIGHBOUR: 'it returns false'. Refute it at one input. -/
def reduceNeedsWrong : ChangeSpec := { name := "reduceNeeds", fn := fun _ => fun
  | [d1, d2, d3, d4] => { results := [.lit (.bool false)], args := [d1, d2, d3, d4] }
  | _ => none }
def ReduceNeedsWrongFalsely : Prop := reduceNeedsRow.holds Tryd.pinned (OpenSpec.ofChange reduceNeedsWrong)

/-- 'sleuthlaw06.ReduceMinimal': WHATEVER THE INPUT: true; the input reads as it did. -/
def reduceMinimalSpec : ChangeSpec := { name := "reduceMinimal", fn := fun _ => fun
  | [d1, d2, d3] => { results := [.lit (.bool true)], args := [d1, d2, d3] }
  | _ => none }
def reduceMinimalRow : OpenClaim := { program := "ytjpbmbonccenfaadoor", sum := "1a39f85b4579942b8f221727d249fc6d9cf34f1270ae6554e716bcfa003668a0", func := "sleuth/sleuthlaw06.ReduceMinimal", spec := "reduceMinimal", unfollowed := true, recurses := true, named := ["internal/strconv.uint64pow10", "math/bits.deBruijn32tab", "math/bits.deBruijn64tab"], apart := false, laid := [("math/bits.deBruijn32tab", laid_math_bits_deBruijn32tab), ("math/bits.deBruijn64tab", laid_math_bits_deBruijn64tab), ("internal/strconv.uint64pow10", laid_internal_strconv_uint64pow10)] }
def ReduceMinimalSaid : Prop := reduceMinimalRow.holds Tryd.pinned (OpenSpec.ofChange reduceMinimalSpec)

/-- ITS FALSE NEIGHBOUR: 'it returns false'. Refute it at one input. -/
def reduceMinimalWrong : ChangeSpec := { name := "reduceMinimal", fn := fun _ => fun
  | [d1, d2, d3] => { results := [.lit (.bool false)], args := [d1, d2, d3] }
  | _ => none }
def ReduceMinimalWrongFalsely : Prop := reduceMinimalRow.holds Tryd.pinned (OpenSpec.ofChange reduceMinimalWrong)

/-- 'sleuthlaw06.ReduceUnique': WHATEVER THE INPUT: true; the input reads as it did. -/
def reduceUniqueSpec : ChangeSpec := { name := "reduceUnique", fn := fun _ => fun
  | [d1, d2, d3] => { results := [.lit (.bool true)], args := [d1, d2, d3] }
  | _ => none }
def reduceUniqueRow : OpenClaim := { program := "ytjpbmbonccenfaadoor", sum := "1a39f85b4579942b8f221727d249fc6d9cf34f1270ae6554e716bcfa003668a0", func := "sleuth/sleuthlaw06.ReduceUnique", spec := "reduceUnique", unfollowed := true, recurses := true, named := ["internal/strconv.uint64pow10", "math/bits.deBruijn32tab", "math/bits.deBruijn64tab"], apart := false, laid := [("math/bits.deBruijn32tab", laid_math_bits_deBruijn32tab), ("math/bits.deBruijn64tab", laid_math_bits_deBruijn64tab), ("internal/strconv.uint64pow10", laid_internal_strconv_uint64pow10)] }
def ReduceUniqueSaid : Prop := reduceUniqueRow.holds Tryd.pinned (OpenSpec.ofChange reduceUniqueSpec)

/-- ITS FALSE NEIGHBOUR: 'it returns false'. Refute it at one input. -/
def reduceUniqueWrong : ChangeSpec := { name := "reduceUnique", fn := fun _ => fun
  | [d1, d2, d3] => { results := [.lit (.bool false)], args := [d1, d2, d3] }
  | _ => none }
def ReduceUniqueWrongFalsely : Prop := reduceUniqueRow.holds Tryd.pinned (OpenSpec.ofChange reduceUniqueWrong)

/-- 'sleuthlaw06.ReduceOnce': WHATEVER THE INPUT: true; the input reads as it did. -/
def reduceOnceSpec : ChangeSpec := { name := "reduceOnce", fn := fun _ => fun
  | [d1, d2, d3, d4, d5] => { results := [.lit (.bool true)], args := [d1, d2, d3, d4, d5] }
  | _ => none }
def reduceOnceRow : OpenClaim := { program := "ytjpbmbonccenfaadoor", sum := "1a39f85b4579942b8f221727d249fc6d9cf34f1270ae6554e716bcfa003668a0", func := "sleuth/sleuthlaw06.ReduceOnce", spec := "reduceOnce", unfollowed := true, recurses := true, named := ["internal/strconv.uint64pow10", "math/bits.deBruijn32tab", "math/bits.deBruijn64tab"], apart := false, laid := [("math/bits.deBruijn32tab", laid_math_bits_deBruijn32tab), ("math/bits.deBruijn64tab", laid_math_bits_deBruijn64tab), ("internal/strconv.uint64pow10", laid_internal_strconv_uint64pow10)] }
def ReduceOnceSaid : Prop := reduceOnceRow.holds Tryd.pinned (OpenSpec.ofChange reduceOnceSpec)

/-- ITS FALSE NEIGHBOUR: 'it returns false'. Refute it at one input. -/
def reduceOnceWrong : ChangeSpec := { name := "reduceOnce", fn := fun _ => fun
  | [d1, d2, d3, d4, d5] => { results := [.lit (.bool false)], args := [d1, d2, d3, d4, d5] }
  | _ => none }
def ReduceOnceWrongFalsely : Prop := reduceOnceRow.holds Tryd.pinned (OpenSpec.ofChange reduceOnceWrong)

/-- 'sleuthlaw06.ReduceIsolated': WHATEVER THE INPUT: true; the input reads as it did. -/
def reduceIsolatedSpec : ChangeSpec := { name := "reduceIsolated", fn := fun _ => fun
  | [d1, d2] => { results := [.lit (.bool true)], args := [d1, d2] }
  | _ => none }
def reduceIsolatedRow : OpenClaim := { program := "ytjpbmbonccenfaadoor", sum := "1a39f85b4579942b8f221727d249fc6d9cf34f1270ae6554e716bcfa003668a0", func := "sleuth/sleuthlaw06.ReduceIsolated", spec := "reduceIsolated", unfollowed := true, recurses := true, named := ["internal/strconv.uint64pow10", "math/bits.deBruijn32tab", "math/bits.deBruijn64tab"], apart := false, laid := [("math/bits.deBruijn32tab", laid_math_bits_deBruijn32tab), ("math/bits.deBruijn64tab", laid_math_bits_deBruijn64tab), ("internal/strconv.uint64pow10", laid_internal_strconv_uint64pow10)] }
def ReduceIsolatedSaid : Prop := reduceIsolatedRow.holds Tryd.pinned (OpenSpec.ofChange reduceIsolatedSpec)

/-- ITS FALSE NEIGHBOUR: 'it returns false'. Refute it at one input. -/
def reduceIsolatedWrong : ChangeSpec := { name := "reduceIsolated", fn := fun _ => fun
  | [d1, d2] => { results := [.lit (.bool false)], args := [d1, d2] }
  | _ => none }
def ReduceIsolatedWrongFalsely : Prop := reduceIsolatedRow.holds Tryd.pinned (OpenSpec.ofChange reduceIsolatedWrong)

/-- 'sleuthlaw06.ReduceSurplus': WHATEVER THE INPUT: true; the input reads as it did. -/
def reduceSurplusSpec : ChangeSpec := { name := "reduceSurplus", fn := fun _ => fun
  | [d1, d2, d3, d4, d5, d6] => { results := [.lit (.bool true)], args := [d1, d2, d3, d4, d5, d6] }
  | _ => none }
def reduceSurplusRow : OpenClaim := { program := "ytjpbmbonccenfaadoor", sum := "1a39f85b4579942b8f221727d249fc6d9cf34f1270ae6554e716bcfa003668a0", func := "sleuth/sleuthlaw06.ReduceSurplus", spec := "reduceSurplus", unfollowed := true, recurses := true, named := ["internal/strconv.uint64pow10", "math/bits.deBruijn32tab", "math/bits.deBruijn64tab"], apart := false, laid := [("math/bits.deBruijn32tab", laid_math_bits_deBruijn32tab), ("math/bits.deBruijn64tab", laid_math_bits_deBruijn64tab), ("internal/strconv.uint64pow10", laid_internal_strconv_uint64pow10)] }
def ReduceSurplusSaid : Prop := reduceSurplusRow.holds Tryd.pinned (OpenSpec.ofChange reduceSurplusSpec)

/-- ITS FALSE NEIGHBOUR: 'it returns false'. Refute it at one input. -/
def reduceSurplusWrong : ChangeSpec := { name := "reduceSurplus", fn := fun _ => fun
  | [d1, d2, d3, d4, d5, d6] => { results := [.lit (.bool false)], args := [d1, d2, d3, d4, d5, d6] }
  | _ => none }
def ReduceSurplusWrongFalsely : Prop := reduceSurplusRow.holds Tryd.pinned (OpenSpec.ofChange reduceSurplusWrong)

/- THE SECOND FORM. 'bulk': how many values and letters a reading holds, each counted each time it is reached (what is shared counts as often as it is met; a slice's spare places count too). A statement '..UptoSaid' is the law's where the arguments, and the package variables that the reading takes, are together of bulk at most 1048576: NARROWER than '..Said'. Prove '..Said' where nothing that the law and all that it calls make is longer than what came in: it says more and counts as full. Else prove '..UptoSaid'. A law counts once. -/
mutual
def uptoBulk {H : Type} : DataW H → Nat
  | .lit (.string bytes) => bytes.length + 1
  | .lit _ => 1
  | .nil => 1
  | .ptr d => uptoBulk d + 1
  | .slice elems spare => uptoBulkAll elems + uptoBulkAll spare + 1
  | .agg parts => uptoBulkAll parts + 1
  | .iface _ d => uptoBulk d + 1
  | .map entries => uptoBulkEntries entries + 1
  | .held _ => 1
def uptoBulkAll {H : Type} : List (DataW H) → Nat
  | [] => 0
  | d :: r => uptoBulk d + uptoBulkAll r
def uptoBulkEntries {H : Type} : List (Lit × DataW H) → Nat
  | [] => 0
  | x :: r => uptoBulkEntry x + uptoBulkEntries r
def uptoBulkEntry {H : Type} : Lit × DataW H → Nat
  | (.string bytes, d) => bytes.length + uptoBulk d + 1
  | (_, d) => uptoBulk d + 1
 end
def uptoSmall : (H : Type) → List (DataW H) → Bool := fun _ ds => decide (uptoBulkAll ds ≤ 1048576)
def OpenSpec.upto (s : _root_.Go.ChangeSpec) : _root_.Go.OpenSpec := { _root_.Go.OpenSpec.ofChange s with cond := some uptoSmall }

/-- 'sleuthlaw06.ReduceChunks', WHERE WHAT IT READS IS OF BULK AT MOST 1048576: true; the input reads as it did. -/
def reduceChunksUptoRow : OpenClaim := { program := "ytjpbmbonccenfaadoor", sum := "1a39f85b4579942b8f221727d249fc6d9cf34f1270ae6554e716bcfa003668a0", func := "sleuth/sleuthlaw06.ReduceChunks", spec := "reduceChunks", unfollowed := true, recurses := true, named := ["internal/strconv.uint64pow10", "math/bits.deBruijn32tab", "math/bits.deBruijn64tab"], apart := false, laid := [("math/bits.deBruijn32tab", laid_math_bits_deBruijn32tab), ("math/bits.deBruijn64tab", laid_math_bits_deBruijn64tab), ("internal/strconv.uint64pow10", laid_internal_strconv_uint64pow10)], narrowed := true }
def ReduceChunksUptoSaid : Prop := reduceChunksUptoRow.holds Tryd.pinned (OpenSpec.upto reduceChunksSpec)

/-- 'sleuthlaw06.ReduceRemovable', WHERE WHAT IT READS IS OF BULK AT MOST 1048576: true; the input reads as it did. -/
def reduceRemovableUptoRow : OpenClaim := { program := "ytjpbmbonccenfaadoor", sum := "1a39f85b4579942b8f221727d249fc6d9cf34f1270ae6554e716bcfa003668a0", func := "sleuth/sleuthlaw06.ReduceRemovable", spec := "reduceRemovable", unfollowed := true, recurses := true, named := ["internal/strconv.uint64pow10", "math/bits.deBruijn32tab", "math/bits.deBruijn64tab"], apart := false, laid := [("math/bits.deBruijn32tab", laid_math_bits_deBruijn32tab), ("math/bits.deBruijn64tab", laid_math_bits_deBruijn64tab), ("internal/strconv.uint64pow10", laid_internal_strconv_uint64pow10)], narrowed := true }
def ReduceRemovableUptoSaid : Prop := reduceRemovableUptoRow.holds Tryd.pinned (OpenSpec.upto reduceRemovableSpec)

/-- 'sleuthlaw06.ReduceSets', WHERE WHAT IT READS IS OF BULK AT MOST 1048576: true; the input reads as it did. -/
def reduceSetsUptoRow : OpenClaim := { program := "ytjpbmbonccenfaadoor", sum := "1a39f85b4579942b8f221727d249fc6d9cf34f1270ae6554e716bcfa003668a0", func := "sleuth/sleuthlaw06.ReduceSets", spec := "reduceSets", unfollowed := true, recurses := true, named := ["internal/strconv.uint64pow10", "math/bits.deBruijn32tab", "math/bits.deBruijn64tab"], apart := false, laid := [("math/bits.deBruijn32tab", laid_math_bits_deBruijn32tab), ("math/bits.deBruijn64tab", laid_math_bits_deBruijn64tab), ("internal/strconv.uint64pow10", laid_internal_strconv_uint64pow10)], narrowed := true }
def ReduceSetsUptoSaid : Prop := reduceSetsUptoRow.holds Tryd.pinned (OpenSpec.upto reduceSetsSpec)

/-- 'sleuthlaw06.ReduceScheduleMinimal', WHERE WHAT IT READS IS OF BULK AT MOST 1048576: true; the input reads as it did. -/
def reduceScheduleMinimalUptoRow : OpenClaim := { program := "ytjpbmbonccenfaadoor", sum := "1a39f85b4579942b8f221727d249fc6d9cf34f1270ae6554e716bcfa003668a0", func := "sleuth/sleuthlaw06.ReduceScheduleMinimal", spec := "reduceScheduleMinimal", unfollowed := true, recurses := true, named := ["internal/strconv.uint64pow10", "math/bits.deBruijn32tab", "math/bits.deBruijn64tab"], apart := false, laid := [("math/bits.deBruijn32tab", laid_math_bits_deBruijn32tab), ("math/bits.deBruijn64tab", laid_math_bits_deBruijn64tab), ("internal/strconv.uint64pow10", laid_internal_strconv_uint64pow10)], narrowed := true }
def ReduceScheduleMinimalUptoSaid : Prop := reduceScheduleMinimalUptoRow.holds Tryd.pinned (OpenSpec.upto reduceScheduleMinimalSpec)

/-- 'sleuthlaw06.ReduceChangesMinimal', WHERE WHAT IT READS IS OF BULK AT MOST 1048576: true; the input reads as it did. -/
def reduceChangesMinimalUptoRow : OpenClaim := { program := "ytjpbmbonccenfaadoor", sum := "1a39f85b4579942b8f221727d249fc6d9cf34f1270ae6554e716bcfa003668a0", func := "sleuth/sleuthlaw06.ReduceChangesMinimal", spec := "reduceChangesMinimal", unfollowed := true, recurses := true, named := ["internal/strconv.uint64pow10", "math/bits.deBruijn32tab", "math/bits.deBruijn64tab"], apart := false, laid := [("math/bits.deBruijn32tab", laid_math_bits_deBruijn32tab), ("math/bits.deBruijn64tab", laid_math_bits_deBruijn64tab), ("internal/strconv.uint64pow10", laid_internal_strconv_uint64pow10)], narrowed := true }
def ReduceChangesMinimalUptoSaid : Prop := reduceChangesMinimalUptoRow.holds Tryd.pinned (OpenSpec.upto reduceChangesMinimalSpec)

/-- 'sleuthlaw06.ReduceSchedules', WHERE WHAT IT READS IS OF BULK AT MOST 1048576: true; the input reads as it did. -/
def reduceSchedulesUptoRow : OpenClaim := { program := "ytjpbmbonccenfaadoor", sum := "1a39f85b4579942b8f221727d249fc6d9cf34f1270ae6554e716bcfa003668a0", func := "sleuth/sleuthlaw06.ReduceSchedules", spec := "reduceSchedules", unfollowed := true, recurses := true, named := ["internal/strconv.uint64pow10", "math/bits.deBruijn32tab", "math/bits.deBruijn64tab"], apart := false, laid := [("math/bits.deBruijn32tab", laid_math_bits_deBruijn32tab), ("math/bits.deBruijn64tab", laid_math_bits_deBruijn64tab), ("internal/strconv.uint64pow10", laid_internal_strconv_uint64pow10)], narrowed := true }
def ReduceSchedulesUptoSaid : Prop := reduceSchedulesUptoRow.holds Tryd.pinned (OpenSpec.upto reduceSchedulesSpec)

/-- 'sleuthlaw06.ReduceNeeds', WHERE WHAT IT READS IS OF BULK AT MOST 1048576: true; the input reads as it did. -/
def reduceNeedsUptoRow : OpenClaim := { program := "ytjpbmbonccenfaadoor", sum := "1a39f85b4579942b8f221727d249fc6d9cf34f1270ae6554e716bcfa003668a0", func := "sleuth/sleuthlaw06.ReduceNeeds", spec := "reduceNeeds", unfollowed := true, recurses := true, named := ["internal/strconv.uint64pow10", "math/bits.deBruijn32tab", "math/bits.deBruijn64tab"], apart := false, laid := [("math/bits.deBruijn32tab", laid_math_bits_deBruijn32tab), ("math/bits.deBruijn64tab", laid_math_bits_deBruijn64tab), ("internal/strconv.uint64pow10", laid_internal_strconv_uint64pow10)], narrowed := true }
def ReduceNeedsUptoSaid : Prop := reduceNeedsUptoRow.holds Tryd.pinned (OpenSpec.upto reduceNeedsSpec)

/-- 'sleuthlaw06.ReduceMinimal', WHERE WHAT IT READS IS OF BULK AT MOST 1048576: true; the input reads as it did. -/
def reduceMinimalUptoRow : OpenClaim := { program := "ytjpbmbonccenfaadoor", sum := "1a39f85b4579942b8f221727d249fc6d9cf34f1270ae6554e716bcfa003668a0", func := "sleuth/sleuthlaw06.ReduceMinimal", spec := "reduceMinimal", unfollowed := true, recurses := true, named := ["internal/strconv.uint64pow10", "math/bits.deBruijn32tab", "math/bits.deBruijn64tab"], apart := false, laid := [("math/bits.deBruijn32tab", laid_math_bits_deBruijn32tab), ("math/bits.deBruijn64tab", laid_math_bits_deBruijn64tab), ("internal/strconv.uint64pow10", laid_internal_strconv_uint64pow10)], narrowed := true }
def ReduceMinimalUptoSaid : Prop := reduceMinimalUptoRow.holds Tryd.pinned (OpenSpec.upto reduceMinimalSpec)

/-- 'sleuthlaw06.ReduceUnique', WHERE WHAT IT READS IS OF BULK AT MOST 1048576: true; the input reads as it did. -/
def reduceUniqueUptoRow : OpenClaim := { program := "ytjpbmbonccenfaadoor", sum := "1a39f85b4579942b8f221727d249fc6d9cf34f1270ae6554e716bcfa003668a0", func := "sleuth/sleuthlaw06.ReduceUnique", spec := "reduceUnique", unfollowed := true, recurses := true, named := ["internal/strconv.uint64pow10", "math/bits.deBruijn32tab", "math/bits.deBruijn64tab"], apart := false, laid := [("math/bits.deBruijn32tab", laid_math_bits_deBruijn32tab), ("math/bits.deBruijn64tab", laid_math_bits_deBruijn64tab), ("internal/strconv.uint64pow10", laid_internal_strconv_uint64pow10)], narrowed := true }
def ReduceUniqueUptoSaid : Prop := reduceUniqueUptoRow.holds Tryd.pinned (OpenSpec.upto reduceUniqueSpec)

/-- 'sleuthlaw06.ReduceOnce', WHERE WHAT IT READS IS OF BULK AT MOST 1048576: true; the input reads as it did. -/
def reduceOnceUptoRow : OpenClaim := { program := "ytjpbmbonccenfaadoor", sum := "1a39f85b4579942b8f221727d249fc6d9cf34f1270ae6554e716bcfa003668a0", func := "sleuth/sleuthlaw06.ReduceOnce", spec := "reduceOnce", unfollowed := true, recurses := true, named := ["internal/strconv.uint64pow10", "math/bits.deBruijn32tab", "math/bits.deBruijn64tab"], apart := false, laid := [("math/bits.deBruijn32tab", laid_math_bits_deBruijn32tab), ("math/bits.deBruijn64tab", laid_math_bits_deBruijn64tab), ("internal/strconv.uint64pow10", laid_internal_strconv_uint64pow10)], narrowed := true }
def ReduceOnceUptoSaid : Prop := reduceOnceUptoRow.holds Tryd.pinned (OpenSpec.upto reduceOnceSpec)

/-- 'sleuthlaw06.ReduceIsolated', WHERE WHAT IT READS IS OF BULK AT MOST 1048576: true; the input reads as it did. -/
def reduceIsolatedUptoRow : OpenClaim := { program := "ytjpbmbonccenfaadoor", sum := "1a39f85b4579942b8f221727d249fc6d9cf34f1270ae6554e716bcfa003668a0", func := "sleuth/sleuthlaw06.ReduceIsolated", spec := "reduceIsolated", unfollowed := true, recurses := true, named := ["internal/strconv.uint64pow10", "math/bits.deBruijn32tab", "math/bits.deBruijn64tab"], apart := false, laid := [("math/bits.deBruijn32tab", laid_math_bits_deBruijn32tab), ("math/bits.deBruijn64tab", laid_math_bits_deBruijn64tab), ("internal/strconv.uint64pow10", laid_internal_strconv_uint64pow10)], narrowed := true }
def ReduceIsolatedUptoSaid : Prop := reduceIsolatedUptoRow.holds Tryd.pinned (OpenSpec.upto reduceIsolatedSpec)

/-- 'sleuthlaw06.ReduceSurplus', WHERE WHAT IT READS IS OF BULK AT MOST 1048576: true; the input reads as it did. -/
def reduceSurplusUptoRow : OpenClaim := { program := "ytjpbmbonccenfaadoor", sum := "1a39f85b4579942b8f221727d249fc6d9cf34f1270ae6554e716bcfa003668a0", func := "sleuth/sleuthlaw06.ReduceSurplus", spec := "reduceSurplus", unfollowed := true, recurses := true, named := ["internal/strconv.uint64pow10", "math/bits.deBruijn32tab", "math/bits.deBruijn64tab"], apart := false, laid := [("math/bits.deBruijn32tab", laid_math_bits_deBruijn32tab), ("math/bits.deBruijn64tab", laid_math_bits_deBruijn64tab), ("internal/strconv.uint64pow10", laid_internal_strconv_uint64pow10)], narrowed := true }
def ReduceSurplusUptoSaid : Prop := reduceSurplusUptoRow.holds Tryd.pinned (OpenSpec.upto reduceSurplusSpec)

end Rows
end Go.Proofs.YtjpbmbonccenfaaDoor
