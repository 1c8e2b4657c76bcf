/-
  No cell of these rows narrows 'for every input' (looked for: loops, veiled, ifaces, maps, wideKeys, modest, calm, conditions, laid).
  DERIVED. THE GIVEN ROWS OF THIS SEAT. 6 by the template 'for every input the law returns true; each argument reads behind the call as it read before'; 0 by the template 'total and deterministic' (their statements: YtjogfeichnkffaaTotals.lean).
  GIVEN WITH THE SEED: the statements are not yours to turn. If you find one false, say at which input.
  Laid BY PROGRAM, IN A SANDBOX (cutbox-rows.mjs): the forced cells as the released guide's own fill.sh prints them over the translation 24a3937ac5f23c2f… (all of the seat's roots in one cut). By AI agents, Wed Nov 11 2026. No macro, syntax, notation, axiom, sorry.
-/
import Derived.Test.YtjogfeichnkffaaChecked
import GoSem.Claim
import GoSem.ClaimJoined
import GoSem.ClaimMapViews
import Derived.JoinedTies
import Derived.KernelRfl
namespace Go.Proofs.Ytjogfeichnkffaa
/- THE CELL 'sum', in the pinned program and in every row, IS THE sha256 OF THE DUMP (.gsa) THAT YtjogfeichnkffaaProg.lean LOADS. Nothing in Lean hashes anything: it is a label: what it is worth is what the hold of that sum in a sandbox is worth. -/
noncomputable def Try.pinned : Pinned := { name := "ytjogfeichnkffaa", sum := "24a3937ac5f23c2f9d4d32a86b7a9c4466680f705c54ae4bae0b86f3c357b995", checked := Try.checked }
namespace Rows
def none {H : Type} : Left H := { results := [], args := [] }

/-- 'laws.FnExactNeighborReach': WHATEVER THE INPUT: true; the input reads as it did. -/
def fnExactNeighborReachSpec : ChangeSpec := { name := "fnExactNeighborReach", fn := fun _ => fun
  | [d] => { results := [.lit (.bool true)], args := [d] }
  | _ => none }
def fnExactNeighborReachRow : OpenClaim := { program := "ytjogfeichnkffaa", sum := "24a3937ac5f23c2f9d4d32a86b7a9c4466680f705c54ae4bae0b86f3c357b995", func := "loop.example/discretetomography/laws.FnExactNeighborReach", spec := "fnExactNeighborReach", inPlace := ["internal/abi.NoEscape"], unfollowed := true, recurses := true, apart := false }
def FnExactNeighborReachSaid : Prop := fnExactNeighborReachRow.holds Try.pinned (OpenSpec.ofChange fnExactNeighborReachSpec)

/-- ITS FALSE NEIGHBOUR: 'it returns false'. Refute it at one input. -/
def fnExactNeighborReachWrong : ChangeSpec := { name := "fnExactNeighborReach", fn := fun _ => fun
  | [d] => { results := [.lit (.bool false)], args := [d] }
  | _ => none }
def FnExactNeighborReachWrongFalsely : Prop := fnExactNeighborReachRow.holds Try.pinned (OpenSpec.ofChange fnExactNeighborReachWrong)

/-- 'laws.FnExactNeighborFar': WHATEVER THE INPUT: true; the input reads as it did. -/
def fnExactNeighborFarSpec : ChangeSpec := { name := "fnExactNeighborFar", fn := fun _ => fun
  | [d1, d2] => { results := [.lit (.bool true)], args := [d1, d2] }
  | _ => none }
def fnExactNeighborFarRow : OpenClaim := { program := "ytjogfeichnkffaa", sum := "24a3937ac5f23c2f9d4d32a86b7a9c4466680f705c54ae4bae0b86f3c357b995", func := "loop.example/discretetomography/laws.FnExactNeighborFar", spec := "fnExactNeighborFar", inPlace := ["internal/abi.NoEscape"], unfollowed := true, recurses := true, apart := false }
def FnExactNeighborFarSaid : Prop := fnExactNeighborFarRow.holds Try.pinned (OpenSpec.ofChange fnExactNeighborFarSpec)

/-- ITS FALSE NEIGHBOUR: 'it returns false'. Refute it at one input. -/
def fnExactNeighborFarWrong : ChangeSpec := { name := "fnExactNeighborFar", fn := fun _ => fun
  | [d1, d2] => { results := [.lit (.bool false)], args := [d1, d2] }
  | _ => none }
def FnExactNeighborFarWrongFalsely : Prop := fnExactNeighborFarRow.holds Try.pinned (OpenSpec.ofChange fnExactNeighborFarWrong)

/-- 'laws.FnReachSame': WHATEVER THE INPUT: true; the input reads as it did. -/
def fnReachSameSpec : ChangeSpec := { name := "fnReachSame", fn := fun _ => fun
  | [d1, d2] => { results := [.lit (.bool true)], args := [d1, d2] }
  | _ => none }
def fnReachSameRow : OpenClaim := { program := "ytjogfeichnkffaa", sum := "24a3937ac5f23c2f9d4d32a86b7a9c4466680f705c54ae4bae0b86f3c357b995", func := "loop.example/discretetomography/laws.FnReachSame", spec := "fnReachSame", inPlace := ["internal/abi.NoEscape"], unfollowed := true, recurses := true, apart := false }
def FnReachSameSaid : Prop := fnReachSameRow.holds Try.pinned (OpenSpec.ofChange fnReachSameSpec)

/-- ITS FALSE NEIGHBOUR: 'it returns false'. Refute it at one input. -/
def fnReachSameWrong : ChangeSpec := { name := "fnReachSame", fn := fun _ => fun
  | [d1, d2] => { results := [.lit (.bool false)], args := [d1, d2] }
  | _ => none }
def FnReachSameWrongFalsely : Prop := fnReachSameRow.holds Try.pinned (OpenSpec.ofChange fnReachSameWrong)

/-- 'laws.FnFarStep': WHATEVER THE INPUT: true; the input reads as it did. -/
def fnFarStepSpec : ChangeSpec := { name := "fnFarStep", fn := fun _ => fun
  | [d] => { results := [.lit (.bool true)], args := [d] }
  | _ => none }
def fnFarStepRow : OpenClaim := { program := "ytjogfeichnkffaa", sum := "24a3937ac5f23c2f9d4d32a86b7a9c4466680f705c54ae4bae0b86f3c357b995", func := "loop.example/discretetomography/laws.FnFarStep", spec := "fnFarStep", inPlace := ["internal/abi.NoEscape"], unfollowed := true, recurses := true, apart := false }
def FnFarStepSaid : Prop := fnFarStepRow.holds Try.pinned (OpenSpec.ofChange fnFarStepSpec)

/-- ITS FALSE NEIGHBOUR: 'it returns false'. Refute it at one input. -/
def fnFarStepWrong : ChangeSpec := { name := "fnFarStep", fn := fun _ => fun
  | [d] => { results := [.lit (.bool false)], args := [d] }
  | _ => none }
def FnFarStepWrongFalsely : Prop := fnFarStepRow.holds Try.pinned (OpenSpec.ofChange fnFarStepWrong)

/-- 'laws.FnFarBack': WHATEVER THE INPUT: true; the input reads as it did. -/
def fnFarBackSpec : ChangeSpec := { name := "fnFarBack", fn := fun _ => fun
  | [d] => { results := [.lit (.bool true)], args := [d] }
  | _ => none }
def fnFarBackRow : OpenClaim := { program := "ytjogfeichnkffaa", sum := "24a3937ac5f23c2f9d4d32a86b7a9c4466680f705c54ae4bae0b86f3c357b995", func := "loop.example/discretetomography/laws.FnFarBack", spec := "fnFarBack", inPlace := ["internal/abi.NoEscape"], unfollowed := true, recurses := true, apart := false }
def FnFarBackSaid : Prop := fnFarBackRow.holds Try.pinned (OpenSpec.ofChange fnFarBackSpec)

/-- ITS FALSE NEIGHBOUR: 'it returns false'. Refute it at one input. -/
def fnFarBackWrong : ChangeSpec := { name := "fnFarBack", fn := fun _ => fun
  | [d] => { results := [.lit (.bool false)], args := [d] }
  | _ => none }
def FnFarBackWrongFalsely : Prop := fnFarBackRow.holds Try.pinned (OpenSpec.ofChange fnFarBackWrong)

/-- 'laws.FnFarTurn': WHATEVER THE INPUT: true; the input reads as it did. -/
def fnFarTurnSpec : ChangeSpec := { name := "fnFarTurn", fn := fun _ => fun
  | [d] => { results := [.lit (.bool true)], args := [d] }
  | _ => none }
def fnFarTurnRow : OpenClaim := { program := "ytjogfeichnkffaa", sum := "24a3937ac5f23c2f9d4d32a86b7a9c4466680f705c54ae4bae0b86f3c357b995", func := "loop.example/discretetomography/laws.FnFarTurn", spec := "fnFarTurn", inPlace := ["internal/abi.NoEscape"], unfollowed := true, recurses := true, apart := false }
def FnFarTurnSaid : Prop := fnFarTurnRow.holds Try.pinned (OpenSpec.ofChange fnFarTurnSpec)

/-- ITS FALSE NEIGHBOUR: 'it returns false'. Refute it at one input. -/
def fnFarTurnWrong : ChangeSpec := { name := "fnFarTurn", fn := fun _ => fun
  | [d] => { results := [.lit (.bool false)], args := [d] }
  | _ => none }
def FnFarTurnWrongFalsely : Prop := fnFarTurnRow.holds Try.pinned (OpenSpec.ofChange fnFarTurnWrong)

/- THE SECOND FORM. 'bulk': how many values and letters a reading holds, each counted each time it is reached (what is shared counts as often as it is met; a slice's spare places count too). A statement '..UptoSaid' is the law's where the arguments, and the package variables that the reading takes, are together of bulk at most 1048576: NARROWER than '..Said'. Prove '..Said' where nothing that the law and all that it calls make is longer than what came in: it says more and counts as full. Else prove '..UptoSaid'. A law counts once. -/
mutual
def uptoBulk {H : Type} : DataW H → Nat
  | .lit (.string bytes) => bytes.length + 1
  | .lit _ => 1
  | .nil => 1
  | .ptr d => uptoBulk d + 1
  | .slice elems spare => uptoBulkAll elems + uptoBulkAll spare + 1
  | .agg parts => uptoBulkAll parts + 1
  | .iface _ d => uptoBulk d + 1
  | .map entries => uptoBulkEntries entries + 1
  | .held _ => 1
def uptoBulkAll {H : Type} : List (DataW H) → Nat
  | [] => 0
  | d :: r => uptoBulk d + uptoBulkAll r
def uptoBulkEntries {H : Type} : List (Lit × DataW H) → Nat
  | [] => 0
  | x :: r => uptoBulkEntry x + uptoBulkEntries r
def uptoBulkEntry {H : Type} : Lit × DataW H → Nat
  | (.string bytes, d) => bytes.length + uptoBulk d + 1
  | (_, d) => uptoBulk d + 1
 end
def uptoSmall : (H : Type) → List (DataW H) → Bool := fun _ ds => decide (uptoBulkAll ds ≤ 1048576)
def OpenSpec.upto (s : _root_.Go.ChangeSpec) : _root_.Go.OpenSpec := { _root_.Go.OpenSpec.ofChange s with cond := some uptoSmall }

/-- 'laws.FnExactNeighborReach', WHERE WHAT IT READS IS OF BULK AT MOST 1048576: true; the input reads as it did. -/
def fnExactNeighborReachUptoRow : OpenClaim := { program := "ytjogfeichnkffaa", sum := "24a3937ac5f23c2f9d4d32a86b7a9c4466680f705c54ae4bae0b86f3c357b995", func := "loop.example/discretetomography/laws.FnExactNeighborReach", spec := "fnExactNeighborReach", inPlace := ["internal/abi.NoEscape"], unfollowed := true, recurses := true, apart := false, narrowed := true }
def FnExactNeighborReachUptoSaid : Prop := fnExactNeighborReachUptoRow.holds Try.pinned (OpenSpec.upto fnExactNeighborReachSpec)

/-- 'laws.FnExactNeighborFar', WHERE WHAT IT READS IS OF BULK AT MOST 1048576: true; the input reads as it did. -/
def fnExactNeighborFarUptoRow : OpenClaim := { program := "ytjogfeichnkffaa", sum := "24a3937ac5f23c2f9d4d32a86b7a9c4466680f705c54ae4bae0b86f3c357b995", func := "loop.example/discretetomography/laws.FnExactNeighborFar", spec := "fnExactNeighborFar", inPlace := ["internal/abi.NoEscape"], unfollowed := true, recurses := true, apart := false, narrowed := true }
def FnExactNeighborFarUptoSaid : Prop := fnExactNeighborFarUptoRow.holds Try.pinned (OpenSpec.upto fnExactNeighborFarSpec)

/-- 'laws.FnReachSame', WHERE WHAT IT READS IS OF BULK AT MOST 1048576: true; the input reads as it did. -/
def fnReachSameUptoRow : OpenClaim := { program := "ytjogfeichnkffaa", sum := "24a3937ac5f23c2f9d4d32a86b7a9c4466680f705c54ae4bae0b86f3c357b995", func := "loop.example/discretetomography/laws.FnReachSame", spec := "fnReachSame", inPlace := ["internal/abi.NoEscape"], unfollowed := true, recurses := true, apart := false, narrowed := true }
def FnReachSameUptoSaid : Prop := fnReachSameUptoRow.holds Try.pinned (OpenSpec.upto fnReachSameSpec)

/-- 'laws.FnFarStep', WHERE WHAT IT READS IS OF BULK AT MOST 1048576: true; the input reads as it did. -/
def fnFarStepUptoRow : OpenClaim := { program := "ytjogfeichnkffaa", sum := "24a3937ac5f23c2f9d4d32a86b7a9c4466680f705c54ae4bae0b86f3c357b995", func := "loop.example/discretetomography/laws.FnFarStep", spec := "fnFarStep", inPlace := ["internal/abi.NoEscape"], unfollowed := true, recurses := true, apart := false, narrowed := true }
def FnFarStepUptoSaid : Prop := fnFarStepUptoRow.holds Try.pinned (OpenSpec.upto fnFarStepSpec)

/-- 'laws.FnFarBack', WHERE WHAT IT READS IS OF BULK AT MOST 1048576: true; the input reads as it did. -/
def fnFarBackUptoRow : OpenClaim := { program := "ytjogfeichnkffaa", sum := "24a3937ac5f23c2f9d4d32a86b7a9c4466680f705c54ae4bae0b86f3c357b995", func := "loop.example/discretetomography/laws.FnFarBack", spec := "fnFarBack", inPlace := ["internal/abi.NoEscape"], unfollowed := true, recurses := true, apart := false, narrowed := true }
def FnFarBackUptoSaid : Prop := fnFarBackUptoRow.holds Try.pinned (OpenSpec.upto fnFarBackSpec)

/-- 'laws.FnFarTurn', WHERE WHAT IT READS IS OF BULK AT MOST 1048576: true; the input reads as it did. -/
def fnFarTurnUptoRow : OpenClaim := { program := "ytjogfeichnkffaa", sum := "24a3937ac5f23c2f9d4d32a86b7a9c4466680f705c54ae4bae0b86f3c357b995", func := "loop.example/discretetomography/laws.FnFarTurn", spec := "fnFarTurn", inPlace := ["internal/abi.NoEscape"], unfollowed := true, recurses := true, apart := false, narrowed := true }
def FnFarTurnUptoSaid : Prop := fnFarTurnUptoRow.holds Try.pinned (OpenSpec.upto fnFarTurnSpec)

end Rows
end Go.Proofs.Ytjogfeichnkffaa
