/-
  No cell of these rows narrows 'for every input' (looked for: loops, veiled, ifaces, maps, wideKeys, modest, calm, conditions, laid).
  DERIVED. THE GIVEN ROWS OF THIS SEAT. 5 by the template 'for every input the law returns true; each argument reads behind the call as it read before'; 0 by the template 'total and deterministic' (their statements: YtbhpiefpmagkbaaTotals.lean).
  GIVEN WITH THE SEED: the statements are not yours to turn. If you find one false, say at which input.
  Laid BY PROGRAM, IN A SANDBOX (cutbox-rows.mjs): the forced cells as the released guide's own fill.sh prints them over the translation bc5d82af71b4e7d6… (all of the seat's roots in one cut). By AI agents, Wed Nov 11 2026. No macro, syntax, notation, axiom, sorry.
-/
import Derived.Test.YtbhpiefpmagkbaaChecked
import GoSem.Claim
import GoSem.ClaimJoined
import GoSem.ClaimMapViews
import Derived.JoinedTies
import Derived.KernelRfl
namespace Go.Proofs.Ytbhpiefpmagkbaa
/- THE CELL 'sum', in the pinned program and in every row, IS THE sha256 OF THE DUMP (.gsa) THAT YtbhpiefpmagkbaaProg.lean LOADS. Nothing in Lean hashes anything: it is a label: what it is worth is what the hold of that sum in a sandbox is worth. -/
noncomputable def Try.pinned : Pinned := { name := "ytbhpiefpmagkbaa", sum := "bc5d82af71b4e7d6160c100b80f793826e7e7b91f81fd411ac6c03a5bec93aca", checked := Try.checked }
namespace Rows
def none {H : Type} : Left H := { results := [], args := [] }

/-- 'laws.FnExactWeightsOf': WHATEVER THE INPUT: true; the input reads as it did. -/
def fnExactWeightsOfSpec : ChangeSpec := { name := "fnExactWeightsOf", fn := fun _ => fun
  | [d] => { results := [.lit (.bool true)], args := [d] }
  | _ => none }
def fnExactWeightsOfRow : OpenClaim := { program := "ytbhpiefpmagkbaa", sum := "bc5d82af71b4e7d6160c100b80f793826e7e7b91f81fd411ac6c03a5bec93aca", func := "loop.example/discretetomography/laws.FnExactWeightsOf", spec := "fnExactWeightsOf", unfollowed := true, recurses := true, apart := false }
def FnExactWeightsOfSaid : Prop := fnExactWeightsOfRow.holds Try.pinned (OpenSpec.ofChange fnExactWeightsOfSpec)

/-- ITS FALSE NEIGHBOUR: 'it returns false'. Refute it at one input. -/
def fnExactWeightsOfWrong : ChangeSpec := { name := "fnExactWeightsOf", fn := fun _ => fun
  | [d] => { results := [.lit (.bool false)], args := [d] }
  | _ => none }
def FnExactWeightsOfWrongFalsely : Prop := fnExactWeightsOfRow.holds Try.pinned (OpenSpec.ofChange fnExactWeightsOfWrong)

/-- 'laws.FnWeightsIff': WHATEVER THE INPUT: true; the input reads as it did. -/
def fnWeightsIffSpec : ChangeSpec := { name := "fnWeightsIff", fn := fun _ => fun
  | [d] => { results := [.lit (.bool true)], args := [d] }
  | _ => none }
def fnWeightsIffRow : OpenClaim := { program := "ytbhpiefpmagkbaa", sum := "bc5d82af71b4e7d6160c100b80f793826e7e7b91f81fd411ac6c03a5bec93aca", func := "loop.example/discretetomography/laws.FnWeightsIff", spec := "fnWeightsIff", unfollowed := true, recurses := true, apart := false }
def FnWeightsIffSaid : Prop := fnWeightsIffRow.holds Try.pinned (OpenSpec.ofChange fnWeightsIffSpec)

/-- ITS FALSE NEIGHBOUR: 'it returns false'. Refute it at one input. -/
def fnWeightsIffWrong : ChangeSpec := { name := "fnWeightsIff", fn := fun _ => fun
  | [d] => { results := [.lit (.bool false)], args := [d] }
  | _ => none }
def FnWeightsIffWrongFalsely : Prop := fnWeightsIffRow.holds Try.pinned (OpenSpec.ofChange fnWeightsIffWrong)

/-- 'laws.FnWeightsOfSums': WHATEVER THE INPUT: true; the input reads as it did. -/
def fnWeightsOfSumsSpec : ChangeSpec := { name := "fnWeightsOfSums", fn := fun _ => fun
  | [d] => { results := [.lit (.bool true)], args := [d] }
  | _ => none }
def fnWeightsOfSumsRow : OpenClaim := { program := "ytbhpiefpmagkbaa", sum := "bc5d82af71b4e7d6160c100b80f793826e7e7b91f81fd411ac6c03a5bec93aca", func := "loop.example/discretetomography/laws.FnWeightsOfSums", spec := "fnWeightsOfSums", unfollowed := true, recurses := true, apart := false }
def FnWeightsOfSumsSaid : Prop := fnWeightsOfSumsRow.holds Try.pinned (OpenSpec.ofChange fnWeightsOfSumsSpec)

/-- ITS FALSE NEIGHBOUR: 'it returns false'. Refute it at one input. -/
def fnWeightsOfSumsWrong : ChangeSpec := { name := "fnWeightsOfSums", fn := fun _ => fun
  | [d] => { results := [.lit (.bool false)], args := [d] }
  | _ => none }
def FnWeightsOfSumsWrongFalsely : Prop := fnWeightsOfSumsRow.holds Try.pinned (OpenSpec.ofChange fnWeightsOfSumsWrong)

/-- 'laws.FnWeightsUnique': WHATEVER THE INPUT: true; the input reads as it did. -/
def fnWeightsUniqueSpec : ChangeSpec := { name := "fnWeightsUnique", fn := fun _ => fun
  | [d] => { results := [.lit (.bool true)], args := [d] }
  | _ => none }
def fnWeightsUniqueRow : OpenClaim := { program := "ytbhpiefpmagkbaa", sum := "bc5d82af71b4e7d6160c100b80f793826e7e7b91f81fd411ac6c03a5bec93aca", func := "loop.example/discretetomography/laws.FnWeightsUnique", spec := "fnWeightsUnique", unfollowed := true, recurses := true, apart := false }
def FnWeightsUniqueSaid : Prop := fnWeightsUniqueRow.holds Try.pinned (OpenSpec.ofChange fnWeightsUniqueSpec)

/-- ITS FALSE NEIGHBOUR: 'it returns false'. Refute it at one input. -/
def fnWeightsUniqueWrong : ChangeSpec := { name := "fnWeightsUnique", fn := fun _ => fun
  | [d] => { results := [.lit (.bool false)], args := [d] }
  | _ => none }
def FnWeightsUniqueWrongFalsely : Prop := fnWeightsUniqueRow.holds Try.pinned (OpenSpec.ofChange fnWeightsUniqueWrong)

/-- 'laws.FnWeightsOf': WHATEVER THE INPUT: true; the input reads as it did. -/
def fnWeightsOfSpec : ChangeSpec := { name := "fnWeightsOf", fn := fun _ => fun
  | [d] => { results := [.lit (.bool true)], args := [d] }
  | _ => none }
def fnWeightsOfRow : OpenClaim := { program := "ytbhpiefpmagkbaa", sum := "bc5d82af71b4e7d6160c100b80f793826e7e7b91f81fd411ac6c03a5bec93aca", func := "loop.example/discretetomography/laws.FnWeightsOf", spec := "fnWeightsOf", unfollowed := true, recurses := true, apart := false }
def FnWeightsOfSaid : Prop := fnWeightsOfRow.holds Try.pinned (OpenSpec.ofChange fnWeightsOfSpec)

/-- ITS FALSE NEIGHBOUR: 'it returns false'. Refute it at one input. -/
def fnWeightsOfWrong : ChangeSpec := { name := "fnWeightsOf", fn := fun _ => fun
  | [d] => { results := [.lit (.bool false)], args := [d] }
  | _ => none }
def FnWeightsOfWrongFalsely : Prop := fnWeightsOfRow.holds Try.pinned (OpenSpec.ofChange fnWeightsOfWrong)

/- THE SECOND FORM. 'bulk': how many values and letters a reading holds, each counted each time it is reached (what is shared counts as often as it is met; a slice's spare places count too). A statement '..UptoSaid' is the law's where the arguments, and the package variables that the reading takes, are together of bulk at most 1048576: NARROWER than '..Said'. Prove '..Said' where nothing that the law and all that it calls make is longer than what came in: it says more and counts as full. Else prove '..UptoSaid'. A law counts once. -/
mutual
def uptoBulk {H : Type} : DataW H → Nat
  | .lit (.string bytes) => bytes.length + 1
  | .lit _ => 1
  | .nil => 1
  | .ptr d => uptoBulk d + 1
  | .slice elems spare => uptoBulkAll elems + uptoBulkAll spare + 1
  | .agg parts => uptoBulkAll parts + 1
  | .iface _ d => uptoBulk d + 1
  | .map entries => uptoBulkEntries entries + 1
  | .held _ => 1
def uptoBulkAll {H : Type} : List (DataW H) → Nat
  | [] => 0
  | d :: r => uptoBulk d + uptoBulkAll r
def uptoBulkEntries {H : Type} : List (Lit × DataW H) → Nat
  | [] => 0
  | x :: r => uptoBulkEntry x + uptoBulkEntries r
def uptoBulkEntry {H : Type} : Lit × DataW H → Nat
  | (.string bytes, d) => bytes.length + uptoBulk d + 1
  | (_, d) => uptoBulk d + 1
 end
def uptoSmall : (H : Type) → List (DataW H) → Bool := fun _ ds => decide (uptoBulkAll ds ≤ 1048576)
def OpenSpec.upto (s : _root_.Go.ChangeSpec) : _root_.Go.OpenSpec := { _root_.Go.OpenSpec.ofChange s with cond := some uptoSmall }

/-- 'laws.FnExactWeightsOf', WHERE WHAT IT READS IS OF BULK AT MOST 1048576: true; the input reads as it did. -/
def fnExactWeightsOfUptoRow : OpenClaim := { program := "ytbhpiefpmagkbaa", sum := "bc5d82af71b4e7d6160c100b80f793826e7e7b91f81fd411ac6c03a5bec93aca", func := "loop.example/discretetomography/laws.FnExactWeightsOf", spec := "fnExactWeightsOf", unfollowed := true, recurses := true, apart := false, narrowed := true }
def FnExactWeightsOfUptoSaid : Prop := fnExactWeightsOfUptoRow.holds Try.pinned (OpenSpec.upto fnExactWeightsOfSpec)

/-- 'laws.FnWeightsIff', WHERE WHAT IT READS IS OF BULK AT MOST 1048576: true; the input reads as it did. -/
def fnWeightsIffUptoRow : OpenClaim := { program := "ytbhpiefpmagkbaa", sum := "bc5d82af71b4e7d6160c100b80f793826e7e7b91f81fd411ac6c03a5bec93aca", func := "loop.example/discretetomography/laws.FnWeightsIff", spec := "fnWeightsIff", unfollowed := true, recurses := true, apart := false, narrowed := true }
def FnWeightsIffUptoSaid : Prop := fnWeightsIffUptoRow.holds Try.pinned (OpenSpec.upto fnWeightsIffSpec)

/-- 'laws.FnWeightsOfSums', WHERE WHAT IT READS IS OF BULK AT MOST 1048576: true; the input reads as it did. -/
def fnWeightsOfSumsUptoRow : OpenClaim := { program := "ytbhpiefpmagkbaa", sum := "bc5d82af71b4e7d6160c100b80f793826e7e7b91f81fd411ac6c03a5bec93aca", func := "loop.example/discretetomography/laws.FnWeightsOfSums", spec := "fnWeightsOfSums", unfollowed := true, recurses := true, apart := false, narrowed := true }
def FnWeightsOfSumsUptoSaid : Prop := fnWeightsOfSumsUptoRow.holds Try.pinned (OpenSpec.upto fnWeightsOfSumsSpec)

/-- 'laws.FnWeightsUnique', WHERE WHAT IT READS IS OF BULK AT MOST 1048576: true; the input reads as it did. -/
def fnWeightsUniqueUptoRow : OpenClaim := { program := "ytbhpiefpmagkbaa", sum := "bc5d82af71b4e7d6160c100b80f793826e7e7b91f81fd411ac6c03a5bec93aca", func := "loop.example/discretetomography/laws.FnWeightsUnique", spec := "fnWeightsUnique", unfollowed := true, recurses := true, apart := false, narrowed := true }
def FnWeightsUniqueUptoSaid : Prop := fnWeightsUniqueUptoRow.holds Try.pinned (OpenSpec.upto fnWeightsUniqueSpec)

/-- 'laws.FnWeightsOf', WHERE WHAT IT READS IS OF BULK AT MOST 1048576: true; the input reads as it did. -/
def fnWeightsOfUptoRow : OpenClaim := { program := "ytbhpiefpmagkbaa", sum := "bc5d82af71b4e7d6160c100b80f793826e7e7b91f81fd411ac6c03a5bec93aca", func := "loop.example/discretetomography/laws.FnWeightsOf", spec := "fnWeightsOf", unfollowed := true, recurses := true, apart := false, narrowed := true }
def FnWeightsOfUptoSaid : Prop := fnWeightsOfUptoRow.holds Try.pinned (OpenSpec.upto fnWeightsOfSpec)

end Rows
end Go.Proofs.Ytbhpiefpmagkbaa
