/-
  NARROWER THAN 'FOR EVERY INPUT', by the rows' own cells (each row's printed sentence says how): FnExecuteShow: laid · FnExecuteNext: laid · FnExecuteUnique: laid · FnExecuteLines: laid · FnExecuteSums: laid · FnExecuteProof: laid · FnExecuteSwitch: laid · FnExecuteBuild: laid.
  DERIVED. THE GIVEN ROWS OF THIS SEAT. 8 by the template 'for every input the law returns true; each argument reads behind the call as it read before'; 0 by the template 'total and deterministic' (their statements: YtpeiolimdglmhaaGreatDoorTotals.lean).
  GIVEN WITH THE SEED: the statements are not yours to turn. If you find one false, say at which input.
  Laid BY PROGRAM, IN A SANDBOX (cutbox-rows.mjs): the forced cells as the released guide's own fill.sh prints them over the translation 247f07f0e46484f0… (all of the seat's roots in one cut). By AI agents, Wed Nov 11 2026. No macro, syntax, notation, axiom, sorry.
-/
import Derived.Test.YtpeiolimdglmhaaGreatDoorChecked
import GoSem.PinnedTables
import GoSem.Claim
import GoSem.ClaimJoined
import GoSem.ClaimMapViews
import Derived.JoinedTies
import Derived.KernelRfl
namespace Go.Proofs.YtpeiolimdglmhaaGreatDoor
/- THE CELL 'sum', in the pinned program and in every row, IS THE sha256 OF THE DUMP (.gsa) THAT YtpeiolimdglmhaaGreatDoorProg.lean LOADS. Nothing in Lean hashes anything: it is a label: what it is worth is what the hold of that sum in a sandbox is worth. -/
noncomputable def Tryz.pinned : Pinned := { name := "ytpeiolimdglmhaagreatdoor", sum := "247f07f0e46484f03053198ea0ca647af9ff15d0228981f803d9fc65d310ad25", checked := Tryz.checked }
namespace Rows
def none {H : Type} : Left H := { results := [], args := [] }

/- WHAT THE LISTED PACKAGE-LEVEL VARIABLES READ AS WHEN THE CALL BEGINS. Each datum BY PROGRAM (the guide's laid-datum.mjs) off the statement by which the dump's own 'gosem.cut.vars' lays the variable. In a bare row this is a premise. The card (YtpeiolimdglmhaaGreatDoorCards.lean) ties it to the program's text. -/
def laid_math_bits_deBruijn32tab {H : Type} : DataW H := .agg [.lit (.int .u8 0), .lit (.int .u8 1), .lit (.int .u8 28), .lit (.int .u8 2), .lit (.int .u8 29), .lit (.int .u8 14), .lit (.int .u8 24), .lit (.int .u8 3), .lit (.int .u8 30), .lit (.int .u8 22), .lit (.int .u8 20), .lit (.int .u8 15), .lit (.int .u8 25), .lit (.int .u8 17), .lit (.int .u8 4), .lit (.int .u8 8), .lit (.int .u8 31), .lit (.int .u8 27), .lit (.int .u8 13), .lit (.int .u8 23), .lit (.int .u8 21), .lit (.int .u8 19), .lit (.int .u8 16), .lit (.int .u8 7), .lit (.int .u8 26), .lit (.int .u8 12), .lit (.int .u8 18), .lit (.int .u8 6), .lit (.int .u8 11), .lit (.int .u8 5), .lit (.int .u8 10), .lit (.int .u8 9)]
def laid_math_bits_deBruijn64tab {H : Type} : DataW H := .agg [.lit (.int .u8 0), .lit (.int .u8 1), .lit (.int .u8 56), .lit (.int .u8 2), .lit (.int .u8 57), .lit (.int .u8 49), .lit (.int .u8 28), .lit (.int .u8 3), .lit (.int .u8 61), .lit (.int .u8 58), .lit (.int .u8 42), .lit (.int .u8 50), .lit (.int .u8 38), .lit (.int .u8 29), .lit (.int .u8 17), .lit (.int .u8 4), .lit (.int .u8 62), .lit (.int .u8 47), .lit (.int .u8 59), .lit (.int .u8 36), .lit (.int .u8 45), .lit (.int .u8 43), .lit (.int .u8 51), .lit (.int .u8 22), .lit (.int .u8 53), .lit (.int .u8 39), .lit (.int .u8 33), .lit (.int .u8 30), .lit (.int .u8 24), .lit (.int .u8 18), .lit (.int .u8 12), .lit (.int .u8 5), .lit (.int .u8 63), .lit (.int .u8 55), .lit (.int .u8 48), .lit (.int .u8 27), .lit (.int .u8 60), .lit (.int .u8 41), .lit (.int .u8 37), .lit (.int .u8 16), .lit (.int .u8 46), .lit (.int .u8 35), .lit (.int .u8 44), .lit (.int .u8 21), .lit (.int .u8 52), .lit (.int .u8 32), .lit (.int .u8 23), .lit (.int .u8 11), .lit (.int .u8 54), .lit (.int .u8 26), .lit (.int .u8 40), .lit (.int .u8 15), .lit (.int .u8 34), .lit (.int .u8 20), .lit (.int .u8 31), .lit (.int .u8 10), .lit (.int .u8 25), .lit (.int .u8 14), .lit (.int .u8 19), .lit (.int .u8 9), .lit (.int .u8 13), .lit (.int .u8 8), .lit (.int .u8 7), .lit (.int .u8 6)]
def laid_internal_strconv_uint64pow10 {H : Type} : DataW H := .agg [.lit (.int .u64 1), .lit (.int .u64 10), .lit (.int .u64 100), .lit (.int .u64 1000), .lit (.int .u64 10000), .lit (.int .u64 100000), .lit (.int .u64 1000000), .lit (.int .u64 10000000), .lit (.int .u64 100000000), .lit (.int .u64 1000000000), .lit (.int .u64 10000000000), .lit (.int .u64 100000000000), .lit (.int .u64 1000000000000), .lit (.int .u64 10000000000000), .lit (.int .u64 100000000000000), .lit (.int .u64 1000000000000000), .lit (.int .u64 10000000000000000), .lit (.int .u64 100000000000000000), .lit (.int .u64 1000000000000000000), .lit (.int .u64 10000000000000000000)]
def laid_unicode_utf8_acceptRanges {H : Type} : DataW H := .agg [.agg [.lit (.int .u8 128), .lit (.int .u8 191)], .agg [.lit (.int .u8 160), .lit (.int .u8 191)], .agg [.lit (.int .u8 128), .lit (.int .u8 159)], .agg [.lit (.int .u8 144), .lit (.int .u8 191)], .agg [.lit (.int .u8 128), .lit (.int .u8 143)], .agg [.lit (.int .u8 0), .lit (.int .u8 0)], .agg [.lit (.int .u8 0), .lit (.int .u8 0)], .agg [.lit (.int .u8 0), .lit (.int .u8 0)], .agg [.lit (.int .u8 0), .lit (.int .u8 0)], .agg [.lit (.int .u8 0), .lit (.int .u8 0)], .agg [.lit (.int .u8 0), .lit (.int .u8 0)], .agg [.lit (.int .u8 0), .lit (.int .u8 0)], .agg [.lit (.int .u8 0), .lit (.int .u8 0)], .agg [.lit (.int .u8 0), .lit (.int .u8 0)], .agg [.lit (.int .u8 0), .lit (.int .u8 0)], .agg [.lit (.int .u8 0), .lit (.int .u8 0)]]
def laid_loop_example_discretetomography_impl_dirSteps {H : Type} : DataW H := .agg [.agg [.lit (.int .i64 1), .lit (.int .i64 0)], .agg [.lit (.int .i64 0), .lit (.int .i64 1)], .agg [.lit (.int .i64 1), .lit (.int .i64 1)], .agg [.lit (.int .i64 1), .lit (.int .i64 (-1))], .agg [.lit (.int .i64 2), .lit (.int .i64 1)], .agg [.lit (.int .i64 1), .lit (.int .i64 2)], .agg [.lit (.int .i64 2), .lit (.int .i64 (-1))], .agg [.lit (.int .i64 1), .lit (.int .i64 (-2))]]
/-- One of Go's own tables, pinned by name: the form's constant. -/
def laid_unicode_utf8_first : DataW Unit := Go.Pinned.utf8First

/-- 'laws.FnExecuteShow': WHATEVER THE INPUT: true; the input reads as it did. -/
def fnExecuteShowSpec : ChangeSpec := { name := "fnExecuteShow", vars := ["loop.example/discretetomography/impl.dirSteps"], fn := fun _ => fun
  | [d, g1] => { results := [.lit (.bool true)], args := [d], vars := [g1] }
  | _ => none }
def fnExecuteShowRow : OpenClaim := { program := "ytpeiolimdglmhaagreatdoor", sum := "247f07f0e46484f03053198ea0ca647af9ff15d0228981f803d9fc65d310ad25", func := "loop.example/discretetomography/laws.FnExecuteShow", spec := "fnExecuteShow", inPlace := ["internal/abi.NoEscape", "internal/bytealg.CountString", "internal/bytealg.IndexByteString", "internal/bytealg.IndexString"], unfollowed := true, recurses := true, named := ["unicode/utf8.first", "unicode/utf8.acceptRanges", "internal/bytealg.MaxLen", "internal/strconv.uint64pow10", "math/bits.deBruijn32tab", "math/bits.deBruijn64tab", "loop.example/discretetomography/impl.dirSteps"], apart := false, laid := [("math/bits.deBruijn32tab", laid_math_bits_deBruijn32tab), ("math/bits.deBruijn64tab", laid_math_bits_deBruijn64tab), ("internal/strconv.uint64pow10", laid_internal_strconv_uint64pow10), ("unicode/utf8.acceptRanges", laid_unicode_utf8_acceptRanges), ("loop.example/discretetomography/impl.dirSteps", laid_loop_example_discretetomography_impl_dirSteps), ("unicode/utf8.first", laid_unicode_utf8_first)] }
def FnExecuteShowSaid : Prop := fnExecuteShowRow.holds Tryz.pinned (OpenSpec.ofChange fnExecuteShowSpec)

/-- ITS FALSE NEIGHBOUR: 'it returns false'. Refute it at one input. -/
def fnExecuteShowWrong : ChangeSpec := { name := "fnExecuteShow", vars := ["loop.example/discretetomography/impl.dirSteps"], fn := fun _ => fun
  | [d, g1] => { results := [.lit (.bool false)], args := [d], vars := [g1] }
  | _ => none }
def FnExecuteShowWrongFalsely : Prop := fnExecuteShowRow.holds Tryz.pinned (OpenSpec.ofChange fnExecuteShowWrong)

/-- 'laws.FnExecuteNext': WHATEVER THE INPUT: true; the input reads as it did. -/
def fnExecuteNextSpec : ChangeSpec := { name := "fnExecuteNext", vars := ["loop.example/discretetomography/impl.dirSteps"], fn := fun _ => fun
  | [d, g1] => { results := [.lit (.bool true)], args := [d], vars := [g1] }
  | _ => none }
def fnExecuteNextRow : OpenClaim := { program := "ytpeiolimdglmhaagreatdoor", sum := "247f07f0e46484f03053198ea0ca647af9ff15d0228981f803d9fc65d310ad25", func := "loop.example/discretetomography/laws.FnExecuteNext", spec := "fnExecuteNext", inPlace := ["internal/abi.NoEscape", "internal/bytealg.CountString", "internal/bytealg.IndexByteString", "internal/bytealg.IndexString"], unfollowed := true, recurses := true, named := ["unicode/utf8.first", "unicode/utf8.acceptRanges", "internal/bytealg.MaxLen", "internal/strconv.uint64pow10", "math/bits.deBruijn32tab", "math/bits.deBruijn64tab", "loop.example/discretetomography/impl.dirSteps"], apart := false, laid := [("math/bits.deBruijn32tab", laid_math_bits_deBruijn32tab), ("math/bits.deBruijn64tab", laid_math_bits_deBruijn64tab), ("internal/strconv.uint64pow10", laid_internal_strconv_uint64pow10), ("unicode/utf8.acceptRanges", laid_unicode_utf8_acceptRanges), ("loop.example/discretetomography/impl.dirSteps", laid_loop_example_discretetomography_impl_dirSteps), ("unicode/utf8.first", laid_unicode_utf8_first)] }
def FnExecuteNextSaid : Prop := fnExecuteNextRow.holds Tryz.pinned (OpenSpec.ofChange fnExecuteNextSpec)

/-- ITS FALSE NEIGHBOUR: 'it returns false'. Refute it at one input. -/
def fnExecuteNextWrong : ChangeSpec := { name := "fnExecuteNext", vars := ["loop.example/discretetomography/impl.dirSteps"], fn := fun _ => fun
  | [d, g1] => { results := [.lit (.bool false)], args := [d], vars := [g1] }
  | _ => none }
def FnExecuteNextWrongFalsely : Prop := fnExecuteNextRow.holds Tryz.pinned (OpenSpec.ofChange fnExecuteNextWrong)

/-- 'laws.FnExecuteUnique': WHATEVER THE INPUT: true; the input reads as it did. -/
def fnExecuteUniqueSpec : ChangeSpec := { name := "fnExecuteUnique", vars := ["loop.example/discretetomography/impl.dirSteps"], fn := fun _ => fun
  | [d, g1] => { results := [.lit (.bool true)], args := [d], vars := [g1] }
  | _ => none }
def fnExecuteUniqueRow : OpenClaim := { program := "ytpeiolimdglmhaagreatdoor", sum := "247f07f0e46484f03053198ea0ca647af9ff15d0228981f803d9fc65d310ad25", func := "loop.example/discretetomography/laws.FnExecuteUnique", spec := "fnExecuteUnique", inPlace := ["internal/abi.NoEscape", "internal/bytealg.CountString", "internal/bytealg.IndexByteString", "internal/bytealg.IndexString"], unfollowed := true, recurses := true, named := ["unicode/utf8.first", "unicode/utf8.acceptRanges", "internal/bytealg.MaxLen", "internal/strconv.uint64pow10", "math/bits.deBruijn32tab", "math/bits.deBruijn64tab", "loop.example/discretetomography/impl.dirSteps"], apart := false, laid := [("math/bits.deBruijn32tab", laid_math_bits_deBruijn32tab), ("math/bits.deBruijn64tab", laid_math_bits_deBruijn64tab), ("internal/strconv.uint64pow10", laid_internal_strconv_uint64pow10), ("unicode/utf8.acceptRanges", laid_unicode_utf8_acceptRanges), ("loop.example/discretetomography/impl.dirSteps", laid_loop_example_discretetomography_impl_dirSteps), ("unicode/utf8.first", laid_unicode_utf8_first)] }
def FnExecuteUniqueSaid : Prop := fnExecuteUniqueRow.holds Tryz.pinned (OpenSpec.ofChange fnExecuteUniqueSpec)

/-- ITS FALSE NEIGHBOUR: 'it returns false'. Refute it at one input. -/
def fnExecuteUniqueWrong : ChangeSpec := { name := "fnExecuteUnique", vars := ["loop.example/discretetomography/impl.dirSteps"], fn := fun _ => fun
  | [d, g1] => { results := [.lit (.bool false)], args := [d], vars := [g1] }
  | _ => none }
def FnExecuteUniqueWrongFalsely : Prop := fnExecuteUniqueRow.holds Tryz.pinned (OpenSpec.ofChange fnExecuteUniqueWrong)

/-- 'laws.FnExecuteLines': WHATEVER THE INPUT: true; the input reads as it did. -/
def fnExecuteLinesSpec : ChangeSpec := { name := "fnExecuteLines", vars := ["loop.example/discretetomography/impl.dirSteps"], fn := fun _ => fun
  | [d1, d2, g1] => { results := [.lit (.bool true)], args := [d1, d2], vars := [g1] }
  | _ => none }
def fnExecuteLinesRow : OpenClaim := { program := "ytpeiolimdglmhaagreatdoor", sum := "247f07f0e46484f03053198ea0ca647af9ff15d0228981f803d9fc65d310ad25", func := "loop.example/discretetomography/laws.FnExecuteLines", spec := "fnExecuteLines", inPlace := ["internal/abi.NoEscape", "internal/bytealg.CountString", "internal/bytealg.IndexByteString", "internal/bytealg.IndexString"], unfollowed := true, recurses := true, named := ["loop.example/discretetomography/impl.dirSteps", "unicode/utf8.first", "unicode/utf8.acceptRanges", "internal/bytealg.MaxLen", "internal/strconv.uint64pow10", "math/bits.deBruijn32tab", "math/bits.deBruijn64tab"], apart := false, laid := [("math/bits.deBruijn32tab", laid_math_bits_deBruijn32tab), ("math/bits.deBruijn64tab", laid_math_bits_deBruijn64tab), ("internal/strconv.uint64pow10", laid_internal_strconv_uint64pow10), ("unicode/utf8.acceptRanges", laid_unicode_utf8_acceptRanges), ("loop.example/discretetomography/impl.dirSteps", laid_loop_example_discretetomography_impl_dirSteps), ("unicode/utf8.first", laid_unicode_utf8_first)] }
def FnExecuteLinesSaid : Prop := fnExecuteLinesRow.holds Tryz.pinned (OpenSpec.ofChange fnExecuteLinesSpec)

/-- ITS FALSE NEIGHBOUR: 'it returns false'. Refute it at one input. -/
def fnExecuteLinesWrong : ChangeSpec := { name := "fnExecuteLines", vars := ["loop.example/discretetomography/impl.dirSteps"], fn := fun _ => fun
  | [d1, d2, g1] => { results := [.lit (.bool false)], args := [d1, d2], vars := [g1] }
  | _ => none }
def FnExecuteLinesWrongFalsely : Prop := fnExecuteLinesRow.holds Tryz.pinned (OpenSpec.ofChange fnExecuteLinesWrong)

/-- 'laws.FnExecuteSums': WHATEVER THE INPUT: true; the input reads as it did. -/
def fnExecuteSumsSpec : ChangeSpec := { name := "fnExecuteSums", vars := ["loop.example/discretetomography/impl.dirSteps"], fn := fun _ => fun
  | [d, g1] => { results := [.lit (.bool true)], args := [d], vars := [g1] }
  | _ => none }
def fnExecuteSumsRow : OpenClaim := { program := "ytpeiolimdglmhaagreatdoor", sum := "247f07f0e46484f03053198ea0ca647af9ff15d0228981f803d9fc65d310ad25", func := "loop.example/discretetomography/laws.FnExecuteSums", spec := "fnExecuteSums", inPlace := ["internal/abi.NoEscape", "internal/bytealg.CountString", "internal/bytealg.IndexByteString", "internal/bytealg.IndexString"], unfollowed := true, recurses := true, named := ["unicode/utf8.first", "unicode/utf8.acceptRanges", "internal/bytealg.MaxLen", "internal/strconv.uint64pow10", "math/bits.deBruijn32tab", "math/bits.deBruijn64tab", "loop.example/discretetomography/impl.dirSteps"], apart := false, laid := [("math/bits.deBruijn32tab", laid_math_bits_deBruijn32tab), ("math/bits.deBruijn64tab", laid_math_bits_deBruijn64tab), ("internal/strconv.uint64pow10", laid_internal_strconv_uint64pow10), ("unicode/utf8.acceptRanges", laid_unicode_utf8_acceptRanges), ("loop.example/discretetomography/impl.dirSteps", laid_loop_example_discretetomography_impl_dirSteps), ("unicode/utf8.first", laid_unicode_utf8_first)] }
def FnExecuteSumsSaid : Prop := fnExecuteSumsRow.holds Tryz.pinned (OpenSpec.ofChange fnExecuteSumsSpec)

/-- ITS FALSE NEIGHBOUR: 'it returns false'. Refute it at one input. -/
def fnExecuteSumsWrong : ChangeSpec := { name := "fnExecuteSums", vars := ["loop.example/discretetomography/impl.dirSteps"], fn := fun _ => fun
  | [d, g1] => { results := [.lit (.bool false)], args := [d], vars := [g1] }
  | _ => none }
def FnExecuteSumsWrongFalsely : Prop := fnExecuteSumsRow.holds Tryz.pinned (OpenSpec.ofChange fnExecuteSumsWrong)

/-- 'laws.FnExecuteProof': WHATEVER THE INPUT: true; the input reads as it did. -/
def fnExecuteProofSpec : ChangeSpec := { name := "fnExecuteProof", vars := ["loop.example/discretetomography/impl.dirSteps"], fn := fun _ => fun
  | [d, g1] => { results := [.lit (.bool true)], args := [d], vars := [g1] }
  | _ => none }
def fnExecuteProofRow : OpenClaim := { program := "ytpeiolimdglmhaagreatdoor", sum := "247f07f0e46484f03053198ea0ca647af9ff15d0228981f803d9fc65d310ad25", func := "loop.example/discretetomography/laws.FnExecuteProof", spec := "fnExecuteProof", inPlace := ["internal/bytealg.CountString", "internal/bytealg.IndexByteString", "internal/bytealg.IndexString", "internal/abi.NoEscape"], unfollowed := true, recurses := true, named := ["unicode/utf8.first", "unicode/utf8.acceptRanges", "internal/bytealg.MaxLen", "internal/strconv.uint64pow10", "math/bits.deBruijn32tab", "math/bits.deBruijn64tab", "loop.example/discretetomography/impl.dirSteps"], apart := false, laid := [("math/bits.deBruijn32tab", laid_math_bits_deBruijn32tab), ("math/bits.deBruijn64tab", laid_math_bits_deBruijn64tab), ("internal/strconv.uint64pow10", laid_internal_strconv_uint64pow10), ("unicode/utf8.acceptRanges", laid_unicode_utf8_acceptRanges), ("loop.example/discretetomography/impl.dirSteps", laid_loop_example_discretetomography_impl_dirSteps), ("unicode/utf8.first", laid_unicode_utf8_first)] }
def FnExecuteProofSaid : Prop := fnExecuteProofRow.holds Tryz.pinned (OpenSpec.ofChange fnExecuteProofSpec)

/-- ITS FALSE NEIGHBOUR: 'it returns false'. Refute it at one input. -/
def fnExecuteProofWrong : ChangeSpec := { name := "fnExecuteProof", vars := ["loop.example/discretetomography/impl.dirSteps"], fn := fun _ => fun
  | [d, g1] => { results := [.lit (.bool false)], args := [d], vars := [g1] }
  | _ => none }
def FnExecuteProofWrongFalsely : Prop := fnExecuteProofRow.holds Tryz.pinned (OpenSpec.ofChange fnExecuteProofWrong)

/-- 'laws.FnExecuteSwitch': WHATEVER THE INPUT: true; the input reads as it did. -/
def fnExecuteSwitchSpec : ChangeSpec := { name := "fnExecuteSwitch", vars := ["loop.example/discretetomography/impl.dirSteps"], fn := fun _ => fun
  | [d, g1] => { results := [.lit (.bool true)], args := [d], vars := [g1] }
  | _ => none }
def fnExecuteSwitchRow : OpenClaim := { program := "ytpeiolimdglmhaagreatdoor", sum := "247f07f0e46484f03053198ea0ca647af9ff15d0228981f803d9fc65d310ad25", func := "loop.example/discretetomography/laws.FnExecuteSwitch", spec := "fnExecuteSwitch", inPlace := ["internal/abi.NoEscape", "internal/bytealg.CountString", "internal/bytealg.IndexByteString", "internal/bytealg.IndexString"], unfollowed := true, recurses := true, named := ["unicode/utf8.first", "unicode/utf8.acceptRanges", "internal/bytealg.MaxLen", "internal/strconv.uint64pow10", "math/bits.deBruijn32tab", "math/bits.deBruijn64tab", "loop.example/discretetomography/impl.dirSteps"], apart := false, laid := [("math/bits.deBruijn32tab", laid_math_bits_deBruijn32tab), ("math/bits.deBruijn64tab", laid_math_bits_deBruijn64tab), ("internal/strconv.uint64pow10", laid_internal_strconv_uint64pow10), ("unicode/utf8.acceptRanges", laid_unicode_utf8_acceptRanges), ("loop.example/discretetomography/impl.dirSteps", laid_loop_example_discretetomography_impl_dirSteps), ("unicode/utf8.first", laid_unicode_utf8_first)] }
def FnExecuteSwitchSaid : Prop := fnExecuteSwitchRow.holds Tryz.pinned (OpenSpec.ofChange fnExecuteSwitchSpec)

/-- ITS FALSE NEIGHBOUR: 'it returns false'. Refute it at one input. -/
def fnExecuteSwitchWrong : ChangeSpec := { name := "fnExecuteSwitch", vars := ["loop.example/discretetomography/impl.dirSteps"], fn := fun _ => fun
  | [d, g1] => { results := [.lit (.bool false)], args := [d], vars := [g1] }
  | _ => none }
def FnExecuteSwitchWrongFalsely : Prop := fnExecuteSwitchRow.holds Tryz.pinned (OpenSpec.ofChange fnExecuteSwitchWrong)

/-- 'laws.FnExecuteBuild': WHATEVER THE INPUT: true; the input reads as it did. -/
def fnExecuteBuildSpec : ChangeSpec := { name := "fnExecuteBuild", vars := ["loop.example/discretetomography/impl.dirSteps"], fn := fun _ => fun
  | [d, g1] => { results := [.lit (.bool true)], args := [d], vars := [g1] }
  | _ => none }
def fnExecuteBuildRow : OpenClaim := { program := "ytpeiolimdglmhaagreatdoor", sum := "247f07f0e46484f03053198ea0ca647af9ff15d0228981f803d9fc65d310ad25", func := "loop.example/discretetomography/laws.FnExecuteBuild", spec := "fnExecuteBuild", inPlace := ["internal/bytealg.CountString", "internal/bytealg.IndexByteString", "internal/bytealg.IndexString", "internal/abi.NoEscape"], unfollowed := true, recurses := true, named := ["unicode/utf8.first", "unicode/utf8.acceptRanges", "internal/bytealg.MaxLen", "internal/strconv.uint64pow10", "math/bits.deBruijn32tab", "math/bits.deBruijn64tab", "loop.example/discretetomography/impl.dirSteps"], apart := false, laid := [("math/bits.deBruijn32tab", laid_math_bits_deBruijn32tab), ("math/bits.deBruijn64tab", laid_math_bits_deBruijn64tab), ("internal/strconv.uint64pow10", laid_internal_strconv_uint64pow10), ("unicode/utf8.acceptRanges", laid_unicode_utf8_acceptRanges), ("loop.example/discretetomography/impl.dirSteps", laid_loop_example_discretetomography_impl_dirSteps), ("unicode/utf8.first", laid_unicode_utf8_first)] }
def FnExecuteBuildSaid : Prop := fnExecuteBuildRow.holds Tryz.pinned (OpenSpec.ofChange fnExecuteBuildSpec)

/-- ITS FALSE NEIGHBOUR: 'it returns false'. Refute it at one input. -/
def fnExecuteBuildWrong : ChangeSpec := { name := "fnExecuteBuild", vars := ["loop.example/discretetomography/impl.dirSteps"], fn := fun _ => fun
  | [d, g1] => { results := [.lit (.bool false)], args := [d], vars := [g1] }
  | _ => none }
def FnExecuteBuildWrongFalsely : Prop := fnExecuteBuildRow.holds Tryz.pinned (OpenSpec.ofChange fnExecuteBuildWrong)

/- THE SECOND FORM. 'bulk': how many values and letters a reading holds, each counted each time it is reached (what is shared counts as often as it is met; a slice's spare places count too). A statement '..UptoSaid' is the law's where the arguments, and the package variables that the reading takes, are together of bulk at most 1048576: NARROWER than '..Said'. Prove '..Said' where nothing that the law and all that it calls make is longer than what came in: it says more and counts as full. Else prove '..UptoSaid'. A law counts once. -/
mutual
def uptoBulk {H : Type} : DataW H → Nat
  | .lit (.string bytes) => bytes.length + 1
  | .lit _ => 1
  | .nil => 1
  | .ptr d => uptoBulk d + 1
  | .slice elems spare => uptoBulkAll elems + uptoBulkAll spare + 1
  | .agg parts => uptoBulkAll parts + 1
  | .iface _ d => uptoBulk d + 1
  | .map entries => uptoBulkEntries entries + 1
  | .held _ => 1
def uptoBulkAll {H : Type} : List (DataW H) → Nat
  | [] => 0
  | d :: r => uptoBulk d + uptoBulkAll r
def uptoBulkEntries {H : Type} : List (Lit × DataW H) → Nat
  | [] => 0
  | x :: r => uptoBulkEntry x + uptoBulkEntries r
def uptoBulkEntry {H : Type} : Lit × DataW H → Nat
  | (.string bytes, d) => bytes.length + uptoBulk d + 1
  | (_, d) => uptoBulk d + 1
 end
def uptoSmall : (H : Type) → List (DataW H) → Bool := fun _ ds => decide (uptoBulkAll ds ≤ 1048576)
def OpenSpec.upto (s : _root_.Go.ChangeSpec) : _root_.Go.OpenSpec := { _root_.Go.OpenSpec.ofChange s with cond := some uptoSmall }

/-- 'laws.FnExecuteShow', WHERE WHAT IT READS IS OF BULK AT MOST 1048576: true; the input reads as it did. -/
def fnExecuteShowUptoRow : OpenClaim := { program := "ytpeiolimdglmhaagreatdoor", sum := "247f07f0e46484f03053198ea0ca647af9ff15d0228981f803d9fc65d310ad25", func := "loop.example/discretetomography/laws.FnExecuteShow", spec := "fnExecuteShow", inPlace := ["internal/abi.NoEscape", "internal/bytealg.CountString", "internal/bytealg.IndexByteString", "internal/bytealg.IndexString"], unfollowed := true, recurses := true, named := ["unicode/utf8.first", "unicode/utf8.acceptRanges", "internal/bytealg.MaxLen", "internal/strconv.uint64pow10", "math/bits.deBruijn32tab", "math/bits.deBruijn64tab", "loop.example/discretetomography/impl.dirSteps"], apart := false, laid := [("math/bits.deBruijn32tab", laid_math_bits_deBruijn32tab), ("math/bits.deBruijn64tab", laid_math_bits_deBruijn64tab), ("internal/strconv.uint64pow10", laid_internal_strconv_uint64pow10), ("unicode/utf8.acceptRanges", laid_unicode_utf8_acceptRanges), ("loop.example/discretetomography/impl.dirSteps", laid_loop_example_discretetomography_impl_dirSteps), ("unicode/utf8.first", laid_unicode_utf8_first)], narrowed := true }
def FnExecuteShowUptoSaid : Prop := fnExecuteShowUptoRow.holds Tryz.pinned (OpenSpec.upto fnExecuteShowSpec)

/-- 'laws.FnExecuteNext', WHERE WHAT IT READS IS OF BULK AT MOST 1048576: true; the input reads as it did. -/
def fnExecuteNextUptoRow : OpenClaim := { program := "ytpeiolimdglmhaagreatdoor", sum := "247f07f0e46484f03053198ea0ca647af9ff15d0228981f803d9fc65d310ad25", func := "loop.example/discretetomography/laws.FnExecuteNext", spec := "fnExecuteNext", inPlace := ["internal/abi.NoEscape", "internal/bytealg.CountString", "internal/bytealg.IndexByteString", "internal/bytealg.IndexString"], unfollowed := true, recurses := true, named := ["unicode/utf8.first", "unicode/utf8.acceptRanges", "internal/bytealg.MaxLen", "internal/strconv.uint64pow10", "math/bits.deBruijn32tab", "math/bits.deBruijn64tab", "loop.example/discretetomography/impl.dirSteps"], apart := false, laid := [("math/bits.deBruijn32tab", laid_math_bits_deBruijn32tab), ("math/bits.deBruijn64tab", laid_math_bits_deBruijn64tab), ("internal/strconv.uint64pow10", laid_internal_strconv_uint64pow10), ("unicode/utf8.acceptRanges", laid_unicode_utf8_acceptRanges), ("loop.example/discretetomography/impl.dirSteps", laid_loop_example_discretetomography_impl_dirSteps), ("unicode/utf8.first", laid_unicode_utf8_first)], narrowed := true }
def FnExecuteNextUptoSaid : Prop := fnExecuteNextUptoRow.holds Tryz.pinned (OpenSpec.upto fnExecuteNextSpec)

/-- 'laws.FnExecuteUnique', WHERE WHAT IT READS IS OF BULK AT MOST 1048576: true; the input reads as it did. -/
def fnExecuteUniqueUptoRow : OpenClaim := { program := "ytpeiolimdglmhaagreatdoor", sum := "247f07f0e46484f03053198ea0ca647af9ff15d0228981f803d9fc65d310ad25", func := "loop.example/discretetomography/laws.FnExecuteUnique", spec := "fnExecuteUnique", inPlace := ["internal/abi.NoEscape", "internal/bytealg.CountString", "internal/bytealg.IndexByteString", "internal/bytealg.IndexString"], unfollowed := true, recurses := true, named := ["unicode/utf8.first", "unicode/utf8.acceptRanges", "internal/bytealg.MaxLen", "internal/strconv.uint64pow10", "math/bits.deBruijn32tab", "math/bits.deBruijn64tab", "loop.example/discretetomography/impl.dirSteps"], apart := false, laid := [("math/bits.deBruijn32tab", laid_math_bits_deBruijn32tab), ("math/bits.deBruijn64tab", laid_math_bits_deBruijn64tab), ("internal/strconv.uint64pow10", laid_internal_strconv_uint64pow10), ("unicode/utf8.acceptRanges", laid_unicode_utf8_acceptRanges), ("loop.example/discretetomography/impl.dirSteps", laid_loop_example_discretetomography_impl_dirSteps), ("unicode/utf8.first", laid_unicode_utf8_first)], narrowed := true }
def FnExecuteUniqueUptoSaid : Prop := fnExecuteUniqueUptoRow.holds Tryz.pinned (OpenSpec.upto fnExecuteUniqueSpec)

/-- 'laws.FnExecuteLines', WHERE WHAT IT READS IS OF BULK AT MOST 1048576: true; the input reads as it did. -/
def fnExecuteLinesUptoRow : OpenClaim := { program := "ytpeiolimdglmhaagreatdoor", sum := "247f07f0e46484f03053198ea0ca647af9ff15d0228981f803d9fc65d310ad25", func := "loop.example/discretetomography/laws.FnExecuteLines", spec := "fnExecuteLines", inPlace := ["internal/abi.NoEscape", "internal/bytealg.CountString", "internal/bytealg.IndexByteString", "internal/bytealg.IndexString"], unfollowed := true, recurses := true, named := ["loop.example/discretetomography/impl.dirSteps", "unicode/utf8.first", "unicode/utf8.acceptRanges", "internal/bytealg.MaxLen", "internal/strconv.uint64pow10", "math/bits.deBruijn32tab", "math/bits.deBruijn64tab"], apart := false, laid := [("math/bits.deBruijn32tab", laid_math_bits_deBruijn32tab), ("math/bits.deBruijn64tab", laid_math_bits_deBruijn64tab), ("internal/strconv.uint64pow10", laid_internal_strconv_uint64pow10), ("unicode/utf8.acceptRanges", laid_unicode_utf8_acceptRanges), ("loop.example/discretetomography/impl.dirSteps", laid_loop_example_discretetomography_impl_dirSteps), ("unicode/utf8.first", laid_unicode_utf8_first)], narrowed := true }
def FnExecuteLinesUptoSaid : Prop := fnExecuteLinesUptoRow.holds Tryz.pinned (OpenSpec.upto fnExecuteLinesSpec)

/-- 'laws.FnExecuteSums', WHERE WHAT IT READS IS OF BULK AT MOST 1048576: true; the input reads as it did. -/
def fnExecuteSumsUptoRow : OpenClaim := { program := "ytpeiolimdglmhaagreatdoor", sum := "247f07f0e46484f03053198ea0ca647af9ff15d0228981f803d9fc65d310ad25", func := "loop.example/discretetomography/laws.FnExecuteSums", spec := "fnExecuteSums", inPlace := ["internal/abi.NoEscape", "internal/bytealg.CountString", "internal/bytealg.IndexByteString", "internal/bytealg.IndexString"], unfollowed := true, recurses := true, named := ["unicode/utf8.first", "unicode/utf8.acceptRanges", "internal/bytealg.MaxLen", "internal/strconv.uint64pow10", "math/bits.deBruijn32tab", "math/bits.deBruijn64tab", "loop.example/discretetomography/impl.dirSteps"], apart := false, laid := [("math/bits.deBruijn32tab", laid_math_bits_deBruijn32tab), ("math/bits.deBruijn64tab", laid_math_bits_deBruijn64tab), ("internal/strconv.uint64pow10", laid_internal_strconv_uint64pow10), ("unicode/utf8.acceptRanges", laid_unicode_utf8_acceptRanges), ("loop.example/discretetomography/impl.dirSteps", laid_loop_example_discretetomography_impl_dirSteps), ("unicode/utf8.first", laid_unicode_utf8_first)], narrowed := true }
def FnExecuteSumsUptoSaid : Prop := fnExecuteSumsUptoRow.holds Tryz.pinned (OpenSpec.upto fnExecuteSumsSpec)

/-- 'laws.FnExecuteProof', WHERE WHAT IT READS IS OF BULK AT MOST 1048576: true; the input reads as it did. -/
def fnExecuteProofUptoRow : OpenClaim := { program := "ytpeiolimdglmhaagreatdoor", sum := "247f07f0e46484f03053198ea0ca647af9ff15d0228981f803d9fc65d310ad25", func := "loop.example/discretetomography/laws.FnExecuteProof", spec := "fnExecuteProof", inPlace := ["internal/bytealg.CountString", "internal/bytealg.IndexByteString", "internal/bytealg.IndexString", "internal/abi.NoEscape"], unfollowed := true, recurses := true, named := ["unicode/utf8.first", "unicode/utf8.acceptRanges", "internal/bytealg.MaxLen", "internal/strconv.uint64pow10", "math/bits.deBruijn32tab", "math/bits.deBruijn64tab", "loop.example/discretetomography/impl.dirSteps"], apart := false, laid := [("math/bits.deBruijn32tab", laid_math_bits_deBruijn32tab), ("math/bits.deBruijn64tab", laid_math_bits_deBruijn64tab), ("internal/strconv.uint64pow10", laid_internal_strconv_uint64pow10), ("unicode/utf8.acceptRanges", laid_unicode_utf8_acceptRanges), ("loop.example/discretetomography/impl.dirSteps", laid_loop_example_discretetomography_impl_dirSteps), ("unicode/utf8.first", laid_unicode_utf8_first)], narrowed := true }
def FnExecuteProofUptoSaid : Prop := fnExecuteProofUptoRow.holds Tryz.pinned (OpenSpec.upto fnExecuteProofSpec)

/-- 'laws.FnExecuteSwitch', WHERE WHAT IT READS IS OF BULK AT MOST 1048576: true; the input reads as it did. -/
def fnExecuteSwitchUptoRow : OpenClaim := { program := "ytpeiolimdglmhaagreatdoor", sum := "247f07f0e46484f03053198ea0ca647af9ff15d0228981f803d9fc65d310ad25", func := "loop.example/discretetomography/laws.FnExecuteSwitch", spec := "fnExecuteSwitch", inPlace := ["internal/abi.NoEscape", "internal/bytealg.CountString", "internal/bytealg.IndexByteString", "internal/bytealg.IndexString"], unfollowed := true, recurses := true, named := ["unicode/utf8.first", "unicode/utf8.acceptRanges", "internal/bytealg.MaxLen", "internal/strconv.uint64pow10", "math/bits.deBruijn32tab", "math/bits.deBruijn64tab", "loop.example/discretetomography/impl.dirSteps"], apart := false, laid := [("math/bits.deBruijn32tab", laid_math_bits_deBruijn32tab), ("math/bits.deBruijn64tab", laid_math_bits_deBruijn64tab), ("internal/strconv.uint64pow10", laid_internal_strconv_uint64pow10), ("unicode/utf8.acceptRanges", laid_unicode_utf8_acceptRanges), ("loop.example/discretetomography/impl.dirSteps", laid_loop_example_discretetomography_impl_dirSteps), ("unicode/utf8.first", laid_unicode_utf8_first)], narrowed := true }
def FnExecuteSwitchUptoSaid : Prop := fnExecuteSwitchUptoRow.holds Tryz.pinned (OpenSpec.upto fnExecuteSwitchSpec)

/-- 'laws.FnExecuteBuild', WHERE WHAT IT READS IS OF BULK AT MOST 1048576: true; the input reads as it did. -/
def fnExecuteBuildUptoRow : OpenClaim := { program := "ytpeiolimdglmhaagreatdoor", sum := "247f07f0e46484f03053198ea0ca647af9ff15d0228981f803d9fc65d310ad25", func := "loop.example/discretetomography/laws.FnExecuteBuild", spec := "fnExecuteBuild", inPlace := ["internal/bytealg.CountString", "internal/bytealg.IndexByteString", "internal/bytealg.IndexString", "internal/abi.NoEscape"], unfollowed := true, recurses := true, named := ["unicode/utf8.first", "unicode/utf8.acceptRanges", "internal/bytealg.MaxLen", "internal/strconv.uint64pow10", "math/bits.deBruijn32tab", "math/bits.deBruijn64tab", "loop.example/discretetomography/impl.dirSteps"], apart := false, laid := [("math/bits.deBruijn32tab", laid_math_bits_deBruijn32tab), ("math/bits.deBruijn64tab", laid_math_bits_deBruijn64tab), ("internal/strconv.uint64pow10", laid_internal_strconv_uint64pow10), ("unicode/utf8.acceptRanges", laid_unicode_utf8_acceptRanges), ("loop.example/discretetomography/impl.dirSteps", laid_loop_example_discretetomography_impl_dirSteps), ("unicode/utf8.first", laid_unicode_utf8_first)], narrowed := true }
def FnExecuteBuildUptoSaid : Prop := fnExecuteBuildUptoRow.holds Tryz.pinned (OpenSpec.upto fnExecuteBuildSpec)

end Rows
end Go.Proofs.YtpeiolimdglmhaaGreatDoor
