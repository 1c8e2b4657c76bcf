/-
  No cell of these rows narrows 'for every input' (looked for: loops, veiled, ifaces, maps, wideKeys, modest, calm, conditions, laid).
  DERIVED. THE GIVEN ROWS OF THIS SEAT. 6 by the template 'for every input the law returns true; each argument reads behind the call as it read before'; 0 by the template 'total and deterministic' (their statements: YtljmlhcmjgepcaaTotals.lean).
  GIVEN WITH THE SEED: the statements are not yours to turn. If you find one false, say at which input.
  Laid BY PROGRAM, IN A SANDBOX (cutbox-rows.mjs): the forced cells as the released guide's own fill.sh prints them over the translation 940b489a2aa89566… (all of the seat's roots in one cut). By AI agents, Wed Nov 11 2026. No macro, syntax, notation, axiom, sorry.
-/
import Derived.Test.YtljmlhcmjgepcaaChecked
import GoSem.Claim
import GoSem.ClaimJoined
import GoSem.ClaimMapViews
import Derived.JoinedTies
import Derived.KernelRfl
namespace Go.Proofs.Ytljmlhcmjgepcaa
/- THE CELL 'sum', in the pinned program and in every row, IS THE sha256 OF THE DUMP (.gsa) THAT YtljmlhcmjgepcaaProg.lean LOADS. Nothing in Lean hashes anything: it is a label: what it is worth is what the hold of that sum in a sandbox is worth. -/
noncomputable def Try.pinned : Pinned := { name := "ytljmlhcmjgepcaa", sum := "940b489a2aa895663e4c2430cebf028ddeab3ecdb31de8f587a36211e11e0e1f", checked := Try.checked }
namespace Rows
def none {H : Type} : Left H := { results := [], args := [] }

/-- 'laws.FnProofIff': WHATEVER THE INPUT: true; the input reads as it did. -/
def fnProofIffSpec : ChangeSpec := { name := "fnProofIff", fn := fun _ => fun
  | [d] => { results := [.lit (.bool true)], args := [d] }
  | _ => none }
def fnProofIffRow : OpenClaim := { program := "ytljmlhcmjgepcaa", sum := "940b489a2aa895663e4c2430cebf028ddeab3ecdb31de8f587a36211e11e0e1f", func := "loop.example/discretetomography/laws.FnProofIff", spec := "fnProofIff", unfollowed := true, recurses := true, apart := false }
def FnProofIffSaid : Prop := fnProofIffRow.holds Try.pinned (OpenSpec.ofChange fnProofIffSpec)

/-- ITS FALSE NEIGHBOUR: 'it returns false'. Refute it at one input. -/
def fnProofIffWrong : ChangeSpec := { name := "fnProofIff", fn := fun _ => fun
  | [d] => { results := [.lit (.bool false)], args := [d] }
  | _ => none }
def FnProofIffWrongFalsely : Prop := fnProofIffRow.holds Try.pinned (OpenSpec.ofChange fnProofIffWrong)

/-- 'laws.FnProofEither': WHATEVER THE INPUT: true; the input reads as it did. -/
def fnProofEitherSpec : ChangeSpec := { name := "fnProofEither", fn := fun _ => fun
  | [d] => { results := [.lit (.bool true)], args := [d] }
  | _ => none }
def fnProofEitherRow : OpenClaim := { program := "ytljmlhcmjgepcaa", sum := "940b489a2aa895663e4c2430cebf028ddeab3ecdb31de8f587a36211e11e0e1f", func := "loop.example/discretetomography/laws.FnProofEither", spec := "fnProofEither", unfollowed := true, recurses := true, apart := false }
def FnProofEitherSaid : Prop := fnProofEitherRow.holds Try.pinned (OpenSpec.ofChange fnProofEitherSpec)

/-- ITS FALSE NEIGHBOUR: 'it returns false'. Refute it at one input. -/
def fnProofEitherWrong : ChangeSpec := { name := "fnProofEither", fn := fun _ => fun
  | [d] => { results := [.lit (.bool false)], args := [d] }
  | _ => none }
def FnProofEitherWrongFalsely : Prop := fnProofEitherRow.holds Try.pinned (OpenSpec.ofChange fnProofEitherWrong)

/-- 'laws.FnProofFill': WHATEVER THE INPUT: true; the input reads as it did. -/
def fnProofFillSpec : ChangeSpec := { name := "fnProofFill", fn := fun _ => fun
  | [d] => { results := [.lit (.bool true)], args := [d] }
  | _ => none }
def fnProofFillRow : OpenClaim := { program := "ytljmlhcmjgepcaa", sum := "940b489a2aa895663e4c2430cebf028ddeab3ecdb31de8f587a36211e11e0e1f", func := "loop.example/discretetomography/laws.FnProofFill", spec := "fnProofFill", unfollowed := true, recurses := true, apart := false }
def FnProofFillSaid : Prop := fnProofFillRow.holds Try.pinned (OpenSpec.ofChange fnProofFillSpec)

/-- ITS FALSE NEIGHBOUR: 'it returns false'. Refute it at one input. -/
def fnProofFillWrong : ChangeSpec := { name := "fnProofFill", fn := fun _ => fun
  | [d] => { results := [.lit (.bool false)], args := [d] }
  | _ => none }
def FnProofFillWrongFalsely : Prop := fnProofFillRow.holds Try.pinned (OpenSpec.ofChange fnProofFillWrong)

/-- 'laws.FnProofColumns': WHATEVER THE INPUT: true; the input reads as it did. -/
def fnProofColumnsSpec : ChangeSpec := { name := "fnProofColumns", fn := fun _ => fun
  | [d] => { results := [.lit (.bool true)], args := [d] }
  | _ => none }
def fnProofColumnsRow : OpenClaim := { program := "ytljmlhcmjgepcaa", sum := "940b489a2aa895663e4c2430cebf028ddeab3ecdb31de8f587a36211e11e0e1f", func := "loop.example/discretetomography/laws.FnProofColumns", spec := "fnProofColumns", unfollowed := true, recurses := true, apart := false }
def FnProofColumnsSaid : Prop := fnProofColumnsRow.holds Try.pinned (OpenSpec.ofChange fnProofColumnsSpec)

/-- ITS FALSE NEIGHBOUR: 'it returns false'. Refute it at one input. -/
def fnProofColumnsWrong : ChangeSpec := { name := "fnProofColumns", fn := fun _ => fun
  | [d] => { results := [.lit (.bool false)], args := [d] }
  | _ => none }
def FnProofColumnsWrongFalsely : Prop := fnProofColumnsRow.holds Try.pinned (OpenSpec.ofChange fnProofColumnsWrong)

/-- 'laws.FnProof': WHATEVER THE INPUT: true; the input reads as it did. -/
def fnProofSpec : ChangeSpec := { name := "fnProof", fn := fun _ => fun
  | [d] => { results := [.lit (.bool true)], args := [d] }
  | _ => none }
def fnProofRow : OpenClaim := { program := "ytljmlhcmjgepcaa", sum := "940b489a2aa895663e4c2430cebf028ddeab3ecdb31de8f587a36211e11e0e1f", func := "loop.example/discretetomography/laws.FnProof", spec := "fnProof", unfollowed := true, recurses := true, apart := false }
def FnProofSaid : Prop := fnProofRow.holds Try.pinned (OpenSpec.ofChange fnProofSpec)

/-- ITS FALSE NEIGHBOUR: 'it returns false'. Refute it at one input. -/
def fnProofWrong : ChangeSpec := { name := "fnProof", fn := fun _ => fun
  | [d] => { results := [.lit (.bool false)], args := [d] }
  | _ => none }
def FnProofWrongFalsely : Prop := fnProofRow.holds Try.pinned (OpenSpec.ofChange fnProofWrong)

/-- 'laws.FnProofTotals': WHATEVER THE INPUT: true; the input reads as it did. -/
def fnProofTotalsSpec : ChangeSpec := { name := "fnProofTotals", fn := fun _ => fun
  | [d] => { results := [.lit (.bool true)], args := [d] }
  | _ => none }
def fnProofTotalsRow : OpenClaim := { program := "ytljmlhcmjgepcaa", sum := "940b489a2aa895663e4c2430cebf028ddeab3ecdb31de8f587a36211e11e0e1f", func := "loop.example/discretetomography/laws.FnProofTotals", spec := "fnProofTotals", unfollowed := true, recurses := true, apart := false }
def FnProofTotalsSaid : Prop := fnProofTotalsRow.holds Try.pinned (OpenSpec.ofChange fnProofTotalsSpec)

/-- ITS FALSE NEIGHBOUR: 'it returns false'. Refute it at one input. -/
def fnProofTotalsWrong : ChangeSpec := { name := "fnProofTotals", fn := fun _ => fun
  | [d] => { results := [.lit (.bool false)], args := [d] }
  | _ => none }
def FnProofTotalsWrongFalsely : Prop := fnProofTotalsRow.holds Try.pinned (OpenSpec.ofChange fnProofTotalsWrong)

/- THE SECOND FORM. 'bulk': how many values and letters a reading holds, each counted each time it is reached (what is shared counts as often as it is met; a slice's spare places count too). A statement '..UptoSaid' is the law's where the arguments, and the package variables that the reading takes, are together of bulk at most 1048576: NARROWER than '..Said'. Prove '..Said' where nothing that the law and all that it calls make is longer than what came in: it says more and counts as full. Else prove '..UptoSaid'. A law counts once. -/
mutual
def uptoBulk {H : Type} : DataW H → Nat
  | .lit (.string bytes) => bytes.length + 1
  | .lit _ => 1
  | .nil => 1
  | .ptr d => uptoBulk d + 1
  | .slice elems spare => uptoBulkAll elems + uptoBulkAll spare + 1
  | .agg parts => uptoBulkAll parts + 1
  | .iface _ d => uptoBulk d + 1
  | .map entries => uptoBulkEntries entries + 1
  | .held _ => 1
def uptoBulkAll {H : Type} : List (DataW H) → Nat
  | [] => 0
  | d :: r => uptoBulk d + uptoBulkAll r
def uptoBulkEntries {H : Type} : List (Lit × DataW H) → Nat
  | [] => 0
  | x :: r => uptoBulkEntry x + uptoBulkEntries r
def uptoBulkEntry {H : Type} : Lit × DataW H → Nat
  | (.string bytes, d) => bytes.length + uptoBulk d + 1
  | (_, d) => uptoBulk d + 1
 end
def uptoSmall : (H : Type) → List (DataW H) → Bool := fun _ ds => decide (uptoBulkAll ds ≤ 1048576)
def OpenSpec.upto (s : _root_.Go.ChangeSpec) : _root_.Go.OpenSpec := { _root_.Go.OpenSpec.ofChange s with cond := some uptoSmall }

/-- 'laws.FnProofIff', WHERE WHAT IT READS IS OF BULK AT MOST 1048576: true; the input reads as it did. -/
def fnProofIffUptoRow : OpenClaim := { program := "ytljmlhcmjgepcaa", sum := "940b489a2aa895663e4c2430cebf028ddeab3ecdb31de8f587a36211e11e0e1f", func := "loop.example/discretetomography/laws.FnProofIff", spec := "fnProofIff", unfollowed := true, recurses := true, apart := false, narrowed := true }
def FnProofIffUptoSaid : Prop := fnProofIffUptoRow.holds Try.pinned (OpenSpec.upto fnProofIffSpec)

/-- 'laws.FnProofEither', WHERE WHAT IT READS IS OF BULK AT MOST 1048576: true; the input reads as it did. -/
def fnProofEitherUptoRow : OpenClaim := { program := "ytljmlhcmjgepcaa", sum := "940b489a2aa895663e4c2430cebf028ddeab3ecdb31de8f587a36211e11e0e1f", func := "loop.example/discretetomography/laws.FnProofEither", spec := "fnProofEither", unfollowed := true, recurses := true, apart := false, narrowed := true }
def FnProofEitherUptoSaid : Prop := fnProofEitherUptoRow.holds Try.pinned (OpenSpec.upto fnProofEitherSpec)

/-- 'laws.FnProofFill', WHERE WHAT IT READS IS OF BULK AT MOST 1048576: true; the input reads as it did. -/
def fnProofFillUptoRow : OpenClaim := { program := "ytljmlhcmjgepcaa", sum := "940b489a2aa895663e4c2430cebf028ddeab3ecdb31de8f587a36211e11e0e1f", func := "loop.example/discretetomography/laws.FnProofFill", spec := "fnProofFill", unfollowed := true, recurses := true, apart := false, narrowed := true }
def FnProofFillUptoSaid : Prop := fnProofFillUptoRow.holds Try.pinned (OpenSpec.upto fnProofFillSpec)

/-- 'laws.FnProofColumns', WHERE WHAT IT READS IS OF BULK AT MOST 1048576: true; the input reads as it did. -/
def fnProofColumnsUptoRow : OpenClaim := { program := "ytljmlhcmjgepcaa", sum := "940b489a2aa895663e4c2430cebf028ddeab3ecdb31de8f587a36211e11e0e1f", func := "loop.example/discretetomography/laws.FnProofColumns", spec := "fnProofColumns", unfollowed := true, recurses := true, apart := false, narrowed := true }
def FnProofColumnsUptoSaid : Prop := fnProofColumnsUptoRow.holds Try.pinned (OpenSpec.upto fnProofColumnsSpec)

/-- 'laws.FnProof', WHERE WHAT IT READS IS OF BULK AT MOST 1048576: true; the input reads as it did. -/
def fnProofUptoRow : OpenClaim := { program := "ytljmlhcmjgepcaa", sum := "940b489a2aa895663e4c2430cebf028ddeab3ecdb31de8f587a36211e11e0e1f", func := "loop.example/discretetomography/laws.FnProof", spec := "fnProof", unfollowed := true, recurses := true, apart := false, narrowed := true }
def FnProofUptoSaid : Prop := fnProofUptoRow.holds Try.pinned (OpenSpec.upto fnProofSpec)

/-- 'laws.FnProofTotals', WHERE WHAT IT READS IS OF BULK AT MOST 1048576: true; the input reads as it did. -/
def fnProofTotalsUptoRow : OpenClaim := { program := "ytljmlhcmjgepcaa", sum := "940b489a2aa895663e4c2430cebf028ddeab3ecdb31de8f587a36211e11e0e1f", func := "loop.example/discretetomography/laws.FnProofTotals", spec := "fnProofTotals", unfollowed := true, recurses := true, apart := false, narrowed := true }
def FnProofTotalsUptoSaid : Prop := fnProofTotalsUptoRow.holds Try.pinned (OpenSpec.upto fnProofTotalsSpec)

end Rows
end Go.Proofs.Ytljmlhcmjgepcaa
