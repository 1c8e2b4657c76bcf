/-
  No cell of these rows narrows 'for every input' (looked for: loops, veiled, ifaces, maps, wideKeys, modest, calm, conditions, laid).
  DERIVED. THE GIVEN ROWS OF THIS SEAT. 7 by the template 'for every input the law returns true; each argument reads behind the call as it read before'; 0 by the template 'total and deterministic' (their statements: YtlhhafgfpmgbcaaTotals.lean).
  GIVEN WITH THE SEED: the statements are not yours to turn. If you find one false, say at which input.
  Laid BY PROGRAM, IN A SANDBOX (cutbox-rows.mjs): the forced cells as the released guide's own fill.sh prints them over the translation c3566388257ce22d… (all of the seat's roots in one cut). By AI agents, Wed Nov 11 2026. No macro, syntax, notation, axiom, sorry.
-/
import Derived.Test.YtlhhafgfpmgbcaaChecked
import GoSem.Claim
import GoSem.ClaimJoined
import GoSem.ClaimMapViews
import Derived.JoinedTies
import Derived.KernelRfl
namespace Go.Proofs.Ytlhhafgfpmgbcaa
/- THE CELL 'sum', in the pinned program and in every row, IS THE sha256 OF THE DUMP (.gsa) THAT YtlhhafgfpmgbcaaProg.lean LOADS. Nothing in Lean hashes anything: it is a label: what it is worth is what the hold of that sum in a sandbox is worth. -/
noncomputable def Try.pinned : Pinned := { name := "ytlhhafgfpmgbcaa", sum := "c3566388257ce22d9878941803b8e723a980591a683028895dbcc059e575d53a", checked := Try.checked }
namespace Rows
def none {H : Type} : Left H := { results := [], args := [] }

/-- 'laws.FnExactWeightsImage': WHATEVER THE INPUT: true; the input reads as it did. -/
def fnExactWeightsImageSpec : ChangeSpec := { name := "fnExactWeightsImage", fn := fun _ => fun
  | [d1, d2] => { results := [.lit (.bool true)], args := [d1, d2] }
  | _ => none }
def fnExactWeightsImageRow : OpenClaim := { program := "ytlhhafgfpmgbcaa", sum := "c3566388257ce22d9878941803b8e723a980591a683028895dbcc059e575d53a", func := "loop.example/discretetomography/laws.FnExactWeightsImage", spec := "fnExactWeightsImage", apart := false }
def FnExactWeightsImageSaid : Prop := fnExactWeightsImageRow.holds Try.pinned (OpenSpec.ofChange fnExactWeightsImageSpec)

/-- ITS FALSE NEIGHBOUR: 'it returns false'. Refute it at one input. -/
def fnExactWeightsImageWrong : ChangeSpec := { name := "fnExactWeightsImage", fn := fun _ => fun
  | [d1, d2] => { results := [.lit (.bool false)], args := [d1, d2] }
  | _ => none }
def FnExactWeightsImageWrongFalsely : Prop := fnExactWeightsImageRow.holds Try.pinned (OpenSpec.ofChange fnExactWeightsImageWrong)

/-- 'laws.FnExactWeightsFit': WHATEVER THE INPUT: true; the input reads as it did. -/
def fnExactWeightsFitSpec : ChangeSpec := { name := "fnExactWeightsFit", fn := fun _ => fun
  | [d1, d2, d3] => { results := [.lit (.bool true)], args := [d1, d2, d3] }
  | _ => none }
def fnExactWeightsFitRow : OpenClaim := { program := "ytlhhafgfpmgbcaa", sum := "c3566388257ce22d9878941803b8e723a980591a683028895dbcc059e575d53a", func := "loop.example/discretetomography/laws.FnExactWeightsFit", spec := "fnExactWeightsFit", apart := false }
def FnExactWeightsFitSaid : Prop := fnExactWeightsFitRow.holds Try.pinned (OpenSpec.ofChange fnExactWeightsFitSpec)

/-- ITS FALSE NEIGHBOUR: 'it returns false'. Refute it at one input. -/
def fnExactWeightsFitWrong : ChangeSpec := { name := "fnExactWeightsFit", fn := fun _ => fun
  | [d1, d2, d3] => { results := [.lit (.bool false)], args := [d1, d2, d3] }
  | _ => none }
def FnExactWeightsFitWrongFalsely : Prop := fnExactWeightsFitRow.holds Try.pinned (OpenSpec.ofChange fnExactWeightsFitWrong)

/-- 'laws.FnWeightsImage': WHATEVER THE INPUT: true; the input reads as it did. -/
def fnWeightsImageSpec : ChangeSpec := { name := "fnWeightsImage", fn := fun _ => fun
  | [d] => { results := [.lit (.bool true)], args := [d] }
  | _ => none }
def fnWeightsImageRow : OpenClaim := { program := "ytlhhafgfpmgbcaa", sum := "c3566388257ce22d9878941803b8e723a980591a683028895dbcc059e575d53a", func := "loop.example/discretetomography/laws.FnWeightsImage", spec := "fnWeightsImage", apart := false }
def FnWeightsImageSaid : Prop := fnWeightsImageRow.holds Try.pinned (OpenSpec.ofChange fnWeightsImageSpec)

/-- ITS FALSE NEIGHBOUR: 'it returns false'. Refute it at one input. -/
def fnWeightsImageWrong : ChangeSpec := { name := "fnWeightsImage", fn := fun _ => fun
  | [d] => { results := [.lit (.bool false)], args := [d] }
  | _ => none }
def FnWeightsImageWrongFalsely : Prop := fnWeightsImageRow.holds Try.pinned (OpenSpec.ofChange fnWeightsImageWrong)

/-- 'laws.FnWeightsShift': WHATEVER THE INPUT: true; the input reads as it did. -/
def fnWeightsShiftSpec : ChangeSpec := { name := "fnWeightsShift", fn := fun _ => fun
  | [d] => { results := [.lit (.bool true)], args := [d] }
  | _ => none }
def fnWeightsShiftRow : OpenClaim := { program := "ytlhhafgfpmgbcaa", sum := "c3566388257ce22d9878941803b8e723a980591a683028895dbcc059e575d53a", func := "loop.example/discretetomography/laws.FnWeightsShift", spec := "fnWeightsShift", apart := false }
def FnWeightsShiftSaid : Prop := fnWeightsShiftRow.holds Try.pinned (OpenSpec.ofChange fnWeightsShiftSpec)

/-- ITS FALSE NEIGHBOUR: 'it returns false'. Refute it at one input. -/
def fnWeightsShiftWrong : ChangeSpec := { name := "fnWeightsShift", fn := fun _ => fun
  | [d] => { results := [.lit (.bool false)], args := [d] }
  | _ => none }
def FnWeightsShiftWrongFalsely : Prop := fnWeightsShiftRow.holds Try.pinned (OpenSpec.ofChange fnWeightsShiftWrong)

/-- 'laws.FnWeightsTwice': WHATEVER THE INPUT: true; the input reads as it did. -/
def fnWeightsTwiceSpec : ChangeSpec := { name := "fnWeightsTwice", fn := fun _ => fun
  | [d] => { results := [.lit (.bool true)], args := [d] }
  | _ => none }
def fnWeightsTwiceRow : OpenClaim := { program := "ytlhhafgfpmgbcaa", sum := "c3566388257ce22d9878941803b8e723a980591a683028895dbcc059e575d53a", func := "loop.example/discretetomography/laws.FnWeightsTwice", spec := "fnWeightsTwice", apart := false }
def FnWeightsTwiceSaid : Prop := fnWeightsTwiceRow.holds Try.pinned (OpenSpec.ofChange fnWeightsTwiceSpec)

/-- ITS FALSE NEIGHBOUR: 'it returns false'. Refute it at one input. -/
def fnWeightsTwiceWrong : ChangeSpec := { name := "fnWeightsTwice", fn := fun _ => fun
  | [d] => { results := [.lit (.bool false)], args := [d] }
  | _ => none }
def FnWeightsTwiceWrongFalsely : Prop := fnWeightsTwiceRow.holds Try.pinned (OpenSpec.ofChange fnWeightsTwiceWrong)

/-- 'laws.FnWeightsRows': WHATEVER THE INPUT: true; the input reads as it did. -/
def fnWeightsRowsSpec : ChangeSpec := { name := "fnWeightsRows", fn := fun _ => fun
  | [d] => { results := [.lit (.bool true)], args := [d] }
  | _ => none }
def fnWeightsRowsRow : OpenClaim := { program := "ytlhhafgfpmgbcaa", sum := "c3566388257ce22d9878941803b8e723a980591a683028895dbcc059e575d53a", func := "loop.example/discretetomography/laws.FnWeightsRows", spec := "fnWeightsRows", apart := false }
def FnWeightsRowsSaid : Prop := fnWeightsRowsRow.holds Try.pinned (OpenSpec.ofChange fnWeightsRowsSpec)

/-- ITS FALSE NEIGHBOUR: 'it returns false'. Refute it at one input. -/
def fnWeightsRowsWrong : ChangeSpec := { name := "fnWeightsRows", fn := fun _ => fun
  | [d] => { results := [.lit (.bool false)], args := [d] }
  | _ => none }
def FnWeightsRowsWrongFalsely : Prop := fnWeightsRowsRow.holds Try.pinned (OpenSpec.ofChange fnWeightsRowsWrong)

/-- 'laws.FnWeightsTurn': WHATEVER THE INPUT: true; the input reads as it did. -/
def fnWeightsTurnSpec : ChangeSpec := { name := "fnWeightsTurn", fn := fun _ => fun
  | [d] => { results := [.lit (.bool true)], args := [d] }
  | _ => none }
def fnWeightsTurnRow : OpenClaim := { program := "ytlhhafgfpmgbcaa", sum := "c3566388257ce22d9878941803b8e723a980591a683028895dbcc059e575d53a", func := "loop.example/discretetomography/laws.FnWeightsTurn", spec := "fnWeightsTurn", unfollowed := true, recurses := true, apart := false }
def FnWeightsTurnSaid : Prop := fnWeightsTurnRow.holds Try.pinned (OpenSpec.ofChange fnWeightsTurnSpec)

/-- ITS FALSE NEIGHBOUR: 'it returns false'. Refute it at one input. -/
def fnWeightsTurnWrong : ChangeSpec := { name := "fnWeightsTurn", fn := fun _ => fun
  | [d] => { results := [.lit (.bool false)], args := [d] }
  | _ => none }
def FnWeightsTurnWrongFalsely : Prop := fnWeightsTurnRow.holds Try.pinned (OpenSpec.ofChange fnWeightsTurnWrong)

/- THE SECOND FORM. 'bulk': how many values and letters a reading holds, each counted each time it is reached (what is shared counts as often as it is met; a slice's spare places count too). A statement '..UptoSaid' is the law's where the arguments, and the package variables that the reading takes, are together of bulk at most 1048576: NARROWER than '..Said'. Prove '..Said' where nothing that the law and all that it calls make is longer than what came in: it says more and counts as full. Else prove '..UptoSaid'. A law counts once. -/
mutual
def uptoBulk {H : Type} : DataW H → Nat
  | .lit (.string bytes) => bytes.length + 1
  | .lit _ => 1
  | .nil => 1
  | .ptr d => uptoBulk d + 1
  | .slice elems spare => uptoBulkAll elems + uptoBulkAll spare + 1
  | .agg parts => uptoBulkAll parts + 1
  | .iface _ d => uptoBulk d + 1
  | .map entries => uptoBulkEntries entries + 1
  | .held _ => 1
def uptoBulkAll {H : Type} : List (DataW H) → Nat
  | [] => 0
  | d :: r => uptoBulk d + uptoBulkAll r
def uptoBulkEntries {H : Type} : List (Lit × DataW H) → Nat
  | [] => 0
  | x :: r => uptoBulkEntry x + uptoBulkEntries r
def uptoBulkEntry {H : Type} : Lit × DataW H → Nat
  | (.string bytes, d) => bytes.length + uptoBulk d + 1
  | (_, d) => uptoBulk d + 1
 end
def uptoSmall : (H : Type) → List (DataW H) → Bool := fun _ ds => decide (uptoBulkAll ds ≤ 1048576)
def OpenSpec.upto (s : _root_.Go.ChangeSpec) : _root_.Go.OpenSpec := { _root_.Go.OpenSpec.ofChange s with cond := some uptoSmall }

/-- 'laws.FnExactWeightsImage', WHERE WHAT IT READS IS OF BULK AT MOST 1048576: true; the input reads as it did. -/
def fnExactWeightsImageUptoRow : OpenClaim := { program := "ytlhhafgfpmgbcaa", sum := "c3566388257ce22d9878941803b8e723a980591a683028895dbcc059e575d53a", func := "loop.example/discretetomography/laws.FnExactWeightsImage", spec := "fnExactWeightsImage", apart := false, narrowed := true }
def FnExactWeightsImageUptoSaid : Prop := fnExactWeightsImageUptoRow.holds Try.pinned (OpenSpec.upto fnExactWeightsImageSpec)

/-- 'laws.FnExactWeightsFit', WHERE WHAT IT READS IS OF BULK AT MOST 1048576: true; the input reads as it did. -/
def fnExactWeightsFitUptoRow : OpenClaim := { program := "ytlhhafgfpmgbcaa", sum := "c3566388257ce22d9878941803b8e723a980591a683028895dbcc059e575d53a", func := "loop.example/discretetomography/laws.FnExactWeightsFit", spec := "fnExactWeightsFit", apart := false, narrowed := true }
def FnExactWeightsFitUptoSaid : Prop := fnExactWeightsFitUptoRow.holds Try.pinned (OpenSpec.upto fnExactWeightsFitSpec)

/-- 'laws.FnWeightsImage', WHERE WHAT IT READS IS OF BULK AT MOST 1048576: true; the input reads as it did. -/
def fnWeightsImageUptoRow : OpenClaim := { program := "ytlhhafgfpmgbcaa", sum := "c3566388257ce22d9878941803b8e723a980591a683028895dbcc059e575d53a", func := "loop.example/discretetomography/laws.FnWeightsImage", spec := "fnWeightsImage", apart := false, narrowed := true }
def FnWeightsImageUptoSaid : Prop := fnWeightsImageUptoRow.holds Try.pinned (OpenSpec.upto fnWeightsImageSpec)

/-- 'laws.FnWeightsShift', WHERE WHAT IT READS IS OF BULK AT MOST 1048576: true; the input reads as it did. -/
def fnWeightsShiftUptoRow : OpenClaim := { program := "ytlhhafgfpmgbcaa", sum := "c3566388257ce22d9878941803b8e723a980591a683028895dbcc059e575d53a", func := "loop.example/discretetomography/laws.FnWeightsShift", spec := "fnWeightsShift", apart := false, narrowed := true }
def FnWeightsShiftUptoSaid : Prop := fnWeightsShiftUptoRow.holds Try.pinned (OpenSpec.upto fnWeightsShiftSpec)

/-- 'laws.FnWeightsTwice', WHERE WHAT IT READS IS OF BULK AT MOST 1048576: true; the input reads as it did. -/
def fnWeightsTwiceUptoRow : OpenClaim := { program := "ytlhhafgfpmgbcaa", sum := "c3566388257ce22d9878941803b8e723a980591a683028895dbcc059e575d53a", func := "loop.example/discretetomography/laws.FnWeightsTwice", spec := "fnWeightsTwice", apart := false, narrowed := true }
def FnWeightsTwiceUptoSaid : Prop := fnWeightsTwiceUptoRow.holds Try.pinned (OpenSpec.upto fnWeightsTwiceSpec)

/-- 'laws.FnWeightsRows', WHERE WHAT IT READS IS OF BULK AT MOST 1048576: true; the input reads as it did. -/
def fnWeightsRowsUptoRow : OpenClaim := { program := "ytlhhafgfpmgbcaa", sum := "c3566388257ce22d9878941803b8e723a980591a683028895dbcc059e575d53a", func := "loop.example/discretetomography/laws.FnWeightsRows", spec := "fnWeightsRows", apart := false, narrowed := true }
def FnWeightsRowsUptoSaid : Prop := fnWeightsRowsUptoRow.holds Try.pinned (OpenSpec.upto fnWeightsRowsSpec)

/-- 'laws.FnWeightsTurn', WHERE WHAT IT READS IS OF BULK AT MOST 1048576: true; the input reads as it did. -/
def fnWeightsTurnUptoRow : OpenClaim := { program := "ytlhhafgfpmgbcaa", sum := "c3566388257ce22d9878941803b8e723a980591a683028895dbcc059e575d53a", func := "loop.example/discretetomography/laws.FnWeightsTurn", spec := "fnWeightsTurn", unfollowed := true, recurses := true, apart := false, narrowed := true }
def FnWeightsTurnUptoSaid : Prop := fnWeightsTurnUptoRow.holds Try.pinned (OpenSpec.upto fnWeightsTurnSpec)

end Rows
end Go.Proofs.Ytlhhafgfpmgbcaa
