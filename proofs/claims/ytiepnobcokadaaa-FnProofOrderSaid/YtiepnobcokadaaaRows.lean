/-
  No cell of these rows narrows 'for every input' (looked for: loops, veiled, ifaces, maps, wideKeys, modest, calm, conditions, laid).
  DERIVED. THE GIVEN ROWS OF THIS SEAT. 6 by the template 'for every input the law returns true; each argument reads behind the call as it read before'; 0 by the template 'total and deterministic' (their statements: YtiepnobcokadaaaTotals.lean).
  GIVEN WITH THE SEED: the statements are not yours to turn. If you find one false, say at which input.
  Laid BY PROGRAM, IN A SANDBOX (cutbox-rows.mjs): the forced cells as the released guide's own fill.sh prints them over the translation 2c20d30f2af9786f… (all of the seat's roots in one cut). By AI agents, Wed Nov 11 2026. No macro, syntax, notation, axiom, sorry.
-/
import Derived.Test.YtiepnobcokadaaaChecked
import GoSem.Claim
import GoSem.ClaimJoined
import GoSem.ClaimMapViews
import Derived.JoinedTies
import Derived.KernelRfl
namespace Go.Proofs.Ytiepnobcokadaaa
/- THE CELL 'sum', in the pinned program and in every row, IS THE sha256 OF THE DUMP (.gsa) THAT YtiepnobcokadaaaProg.lean LOADS. Nothing in Lean hashes anything: it is a label: what it is worth is what the hold of that sum in a sandbox is worth. -/
noncomputable def Try.pinned : Pinned := { name := "ytiepnobcokadaaa", sum := "2c20d30f2af9786fa84779539443f99582aeca7eceb17465f66376ea27c31ae1", checked := Try.checked }
namespace Rows
def none {H : Type} : Left H := { results := [], args := [] }

/-- 'laws.FnExactProofOk': WHATEVER THE INPUT: true; the input reads as it did. -/
def fnExactProofOkSpec : ChangeSpec := { name := "fnExactProofOk", fn := fun _ => fun
  | [d1, d2, d3] => { results := [.lit (.bool true)], args := [d1, d2, d3] }
  | _ => none }
def fnExactProofOkRow : OpenClaim := { program := "ytiepnobcokadaaa", sum := "2c20d30f2af9786fa84779539443f99582aeca7eceb17465f66376ea27c31ae1", func := "loop.example/discretetomography/laws.FnExactProofOk", spec := "fnExactProofOk", unfollowed := true, recurses := true, apart := false }
def FnExactProofOkSaid : Prop := fnExactProofOkRow.holds Try.pinned (OpenSpec.ofChange fnExactProofOkSpec)

/-- ITS FALSE NEIGHBOUR: 'it returns false'. Refute it at one input. -/
def fnExactProofOkWrong : ChangeSpec := { name := "fnExactProofOk", fn := fun _ => fun
  | [d1, d2, d3] => { results := [.lit (.bool false)], args := [d1, d2, d3] }
  | _ => none }
def FnExactProofOkWrongFalsely : Prop := fnExactProofOkRow.holds Try.pinned (OpenSpec.ofChange fnExactProofOkWrong)

/-- 'laws.FnExactProofOf': WHATEVER THE INPUT: true; the input reads as it did. -/
def fnExactProofOfSpec : ChangeSpec := { name := "fnExactProofOf", fn := fun _ => fun
  | [d1, d2] => { results := [.lit (.bool true)], args := [d1, d2] }
  | _ => none }
def fnExactProofOfRow : OpenClaim := { program := "ytiepnobcokadaaa", sum := "2c20d30f2af9786fa84779539443f99582aeca7eceb17465f66376ea27c31ae1", func := "loop.example/discretetomography/laws.FnExactProofOf", spec := "fnExactProofOf", unfollowed := true, recurses := true, apart := false }
def FnExactProofOfSaid : Prop := fnExactProofOfRow.holds Try.pinned (OpenSpec.ofChange fnExactProofOfSpec)

/-- ITS FALSE NEIGHBOUR: 'it returns false'. Refute it at one input. -/
def fnExactProofOfWrong : ChangeSpec := { name := "fnExactProofOf", fn := fun _ => fun
  | [d1, d2] => { results := [.lit (.bool false)], args := [d1, d2] }
  | _ => none }
def FnExactProofOfWrongFalsely : Prop := fnExactProofOfRow.holds Try.pinned (OpenSpec.ofChange fnExactProofOfWrong)

/-- 'laws.FnExactProofColumns': WHATEVER THE INPUT: true; the input reads as it did. -/
def fnExactProofColumnsSpec : ChangeSpec := { name := "fnExactProofColumns", fn := fun _ => fun
  | [d1, d2] => { results := [.lit (.bool true)], args := [d1, d2] }
  | _ => none }
def fnExactProofColumnsRow : OpenClaim := { program := "ytiepnobcokadaaa", sum := "2c20d30f2af9786fa84779539443f99582aeca7eceb17465f66376ea27c31ae1", func := "loop.example/discretetomography/laws.FnExactProofColumns", spec := "fnExactProofColumns", unfollowed := true, recurses := true, apart := false }
def FnExactProofColumnsSaid : Prop := fnExactProofColumnsRow.holds Try.pinned (OpenSpec.ofChange fnExactProofColumnsSpec)

/-- ITS FALSE NEIGHBOUR: 'it returns false'. Refute it at one input. -/
def fnExactProofColumnsWrong : ChangeSpec := { name := "fnExactProofColumns", fn := fun _ => fun
  | [d1, d2] => { results := [.lit (.bool false)], args := [d1, d2] }
  | _ => none }
def FnExactProofColumnsWrongFalsely : Prop := fnExactProofColumnsRow.holds Try.pinned (OpenSpec.ofChange fnExactProofColumnsWrong)

/-- 'laws.FnProofLess': WHATEVER THE INPUT: true; the input reads as it did. -/
def fnProofLessSpec : ChangeSpec := { name := "fnProofLess", fn := fun _ => fun
  | [d1, d2] => { results := [.lit (.bool true)], args := [d1, d2] }
  | _ => none }
def fnProofLessRow : OpenClaim := { program := "ytiepnobcokadaaa", sum := "2c20d30f2af9786fa84779539443f99582aeca7eceb17465f66376ea27c31ae1", func := "loop.example/discretetomography/laws.FnProofLess", spec := "fnProofLess", unfollowed := true, recurses := true, apart := false }
def FnProofLessSaid : Prop := fnProofLessRow.holds Try.pinned (OpenSpec.ofChange fnProofLessSpec)

/-- ITS FALSE NEIGHBOUR: 'it returns false'. Refute it at one input. -/
def fnProofLessWrong : ChangeSpec := { name := "fnProofLess", fn := fun _ => fun
  | [d1, d2] => { results := [.lit (.bool false)], args := [d1, d2] }
  | _ => none }
def FnProofLessWrongFalsely : Prop := fnProofLessRow.holds Try.pinned (OpenSpec.ofChange fnProofLessWrong)

/-- 'laws.FnProofOf': WHATEVER THE INPUT: true; the input reads as it did. -/
def fnProofOfSpec : ChangeSpec := { name := "fnProofOf", fn := fun _ => fun
  | [d] => { results := [.lit (.bool true)], args := [d] }
  | _ => none }
def fnProofOfRow : OpenClaim := { program := "ytiepnobcokadaaa", sum := "2c20d30f2af9786fa84779539443f99582aeca7eceb17465f66376ea27c31ae1", func := "loop.example/discretetomography/laws.FnProofOf", spec := "fnProofOf", unfollowed := true, recurses := true, apart := false }
def FnProofOfSaid : Prop := fnProofOfRow.holds Try.pinned (OpenSpec.ofChange fnProofOfSpec)

/-- ITS FALSE NEIGHBOUR: 'it returns false'. Refute it at one input. -/
def fnProofOfWrong : ChangeSpec := { name := "fnProofOf", fn := fun _ => fun
  | [d] => { results := [.lit (.bool false)], args := [d] }
  | _ => none }
def FnProofOfWrongFalsely : Prop := fnProofOfRow.holds Try.pinned (OpenSpec.ofChange fnProofOfWrong)

/-- 'laws.FnProofOrder': WHATEVER THE INPUT: true; the input reads as it did. -/
def fnProofOrderSpec : ChangeSpec := { name := "fnProofOrder", fn := fun _ => fun
  | [d1, d2] => { results := [.lit (.bool true)], args := [d1, d2] }
  | _ => none }
def fnProofOrderRow : OpenClaim := { program := "ytiepnobcokadaaa", sum := "2c20d30f2af9786fa84779539443f99582aeca7eceb17465f66376ea27c31ae1", func := "loop.example/discretetomography/laws.FnProofOrder", spec := "fnProofOrder", unfollowed := true, recurses := true, apart := false }
def FnProofOrderSaid : Prop := fnProofOrderRow.holds Try.pinned (OpenSpec.ofChange fnProofOrderSpec)

/-- ITS FALSE NEIGHBOUR: 'it returns false'. Refute it at one input. -/
def fnProofOrderWrong : ChangeSpec := { name := "fnProofOrder", fn := fun _ => fun
  | [d1, d2] => { results := [.lit (.bool false)], args := [d1, d2] }
  | _ => none }
def FnProofOrderWrongFalsely : Prop := fnProofOrderRow.holds Try.pinned (OpenSpec.ofChange fnProofOrderWrong)

/- THE SECOND FORM. 'bulk': how many values and letters a reading holds, each counted each time it is reached (what is shared counts as often as it is met; a slice's spare places count too). A statement '..UptoSaid' is the law's where the arguments, and the package variables that the reading takes, are together of bulk at most 1048576: NARROWER than '..Said'. Prove '..Said' where nothing that the law and all that it calls make is longer than what came in: it says more and counts as full. Else prove '..UptoSaid'. A law counts once. -/
mutual
def uptoBulk {H : Type} : DataW H → Nat
  | .lit (.string bytes) => bytes.length + 1
  | .lit _ => 1
  | .nil => 1
  | .ptr d => uptoBulk d + 1
  | .slice elems spare => uptoBulkAll elems + uptoBulkAll spare + 1
  | .agg parts => uptoBulkAll parts + 1
  | .iface _ d => uptoBulk d + 1
  | .map entries => uptoBulkEntries entries + 1
  | .held _ => 1
def uptoBulkAll {H : Type} : List (DataW H) → Nat
  | [] => 0
  | d :: r => uptoBulk d + uptoBulkAll r
def uptoBulkEntries {H : Type} : List (Lit × DataW H) → Nat
  | [] => 0
  | x :: r => uptoBulkEntry x + uptoBulkEntries r
def uptoBulkEntry {H : Type} : Lit × DataW H → Nat
  | (.string bytes, d) => bytes.length + uptoBulk d + 1
  | (_, d) => uptoBulk d + 1
 end
def uptoSmall : (H : Type) → List (DataW H) → Bool := fun _ ds => decide (uptoBulkAll ds ≤ 1048576)
def OpenSpec.upto (s : _root_.Go.ChangeSpec) : _root_.Go.OpenSpec := { _root_.Go.OpenSpec.ofChange s with cond := some uptoSmall }

/-- 'laws.FnExactProofOk', WHERE WHAT IT READS IS OF BULK AT MOST 1048576: true; the input reads as it did. -/
def fnExactProofOkUptoRow : OpenClaim := { program := "ytiepnobcokadaaa", sum := "2c20d30f2af9786fa84779539443f99582aeca7eceb17465f66376ea27c31ae1", func := "loop.example/discretetomography/laws.FnExactProofOk", spec := "fnExactProofOk", unfollowed := true, recurses := true, apart := false, narrowed := true }
def FnExactProofOkUptoSaid : Prop := fnExactProofOkUptoRow.holds Try.pinned (OpenSpec.upto fnExactProofOkSpec)

/-- 'laws.FnExactProofOf', WHERE WHAT IT READS IS OF BULK AT MOST 1048576: true; the input reads as it did. -/
def fnExactProofOfUptoRow : OpenClaim := { program := "ytiepnobcokadaaa", sum := "2c20d30f2af9786fa84779539443f99582aeca7eceb17465f66376ea27c31ae1", func := "loop.example/discretetomography/laws.FnExactProofOf", spec := "fnExactProofOf", unfollowed := true, recurses := true, apart := false, narrowed := true }
def FnExactProofOfUptoSaid : Prop := fnExactProofOfUptoRow.holds Try.pinned (OpenSpec.upto fnExactProofOfSpec)

/-- 'laws.FnExactProofColumns', WHERE WHAT IT READS IS OF BULK AT MOST 1048576: true; the input reads as it did. -/
def fnExactProofColumnsUptoRow : OpenClaim := { program := "ytiepnobcokadaaa", sum := "2c20d30f2af9786fa84779539443f99582aeca7eceb17465f66376ea27c31ae1", func := "loop.example/discretetomography/laws.FnExactProofColumns", spec := "fnExactProofColumns", unfollowed := true, recurses := true, apart := false, narrowed := true }
def FnExactProofColumnsUptoSaid : Prop := fnExactProofColumnsUptoRow.holds Try.pinned (OpenSpec.upto fnExactProofColumnsSpec)

/-- 'laws.FnProofLess', WHERE WHAT IT READS IS OF BULK AT MOST 1048576: true; the input reads as it did. -/
def fnProofLessUptoRow : OpenClaim := { program := "ytiepnobcokadaaa", sum := "2c20d30f2af9786fa84779539443f99582aeca7eceb17465f66376ea27c31ae1", func := "loop.example/discretetomography/laws.FnProofLess", spec := "fnProofLess", unfollowed := true, recurses := true, apart := false, narrowed := true }
def FnProofLessUptoSaid : Prop := fnProofLessUptoRow.holds Try.pinned (OpenSpec.upto fnProofLessSpec)

/-- 'laws.FnProofOf', WHERE WHAT IT READS IS OF BULK AT MOST 1048576: true; the input reads as it did. -/
def fnProofOfUptoRow : OpenClaim := { program := "ytiepnobcokadaaa", sum := "2c20d30f2af9786fa84779539443f99582aeca7eceb17465f66376ea27c31ae1", func := "loop.example/discretetomography/laws.FnProofOf", spec := "fnProofOf", unfollowed := true, recurses := true, apart := false, narrowed := true }
def FnProofOfUptoSaid : Prop := fnProofOfUptoRow.holds Try.pinned (OpenSpec.upto fnProofOfSpec)

/-- 'laws.FnProofOrder', WHERE WHAT IT READS IS OF BULK AT MOST 1048576: true; the input reads as it did. -/
def fnProofOrderUptoRow : OpenClaim := { program := "ytiepnobcokadaaa", sum := "2c20d30f2af9786fa84779539443f99582aeca7eceb17465f66376ea27c31ae1", func := "loop.example/discretetomography/laws.FnProofOrder", spec := "fnProofOrder", unfollowed := true, recurses := true, apart := false, narrowed := true }
def FnProofOrderUptoSaid : Prop := fnProofOrderUptoRow.holds Try.pinned (OpenSpec.upto fnProofOrderSpec)

end Rows
end Go.Proofs.Ytiepnobcokadaaa
