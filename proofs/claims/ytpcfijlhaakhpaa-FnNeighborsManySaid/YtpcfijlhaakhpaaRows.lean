/-
  No cell of these rows narrows 'for every input' (looked for: loops, veiled, ifaces, maps, wideKeys, modest, calm, conditions, laid).
  DERIVED. THE GIVEN ROWS OF THIS SEAT. 6 by the template 'for every input the law returns true; each argument reads behind the call as it read before'; 0 by the template 'total and deterministic' (their statements: YtpcfijlhaakhpaaTotals.lean).
  GIVEN WITH THE SEED: the statements are not yours to turn. If you find one false, say at which input.
  Laid BY PROGRAM, IN A SANDBOX (cutbox-rows.mjs): the forced cells as the released guide's own fill.sh prints them over the translation 52b9622d6ff5ca17… (all of the seat's roots in one cut). By AI agents, Wed Nov 11 2026. No macro, syntax, notation, axiom, sorry.
-/
import Derived.Test.YtpcfijlhaakhpaaChecked
import GoSem.Claim
import GoSem.ClaimJoined
import GoSem.ClaimMapViews
import Derived.JoinedTies
import Derived.KernelRfl
namespace Go.Proofs.Ytpcfijlhaakhpaa
/- THE CELL 'sum', in the pinned program and in every row, IS THE sha256 OF THE DUMP (.gsa) THAT YtpcfijlhaakhpaaProg.lean LOADS. Nothing in Lean hashes anything: it is a label: what it is worth is what the hold of that sum in a sandbox is worth. -/
noncomputable def Try.pinned : Pinned := { name := "ytpcfijlhaakhpaa", sum := "52b9622d6ff5ca176b17e5ab51235c81fa90b7a57726f9f0796588bdfce417d2", checked := Try.checked }
namespace Rows
def none {H : Type} : Left H := { results := [], args := [] }

/-- 'laws.FnNeighbors': WHATEVER THE INPUT: true; the input reads as it did. -/
def fnNeighborsSpec : ChangeSpec := { name := "fnNeighbors", fn := fun _ => fun
  | [d] => { results := [.lit (.bool true)], args := [d] }
  | _ => none }
def fnNeighborsRow : OpenClaim := { program := "ytpcfijlhaakhpaa", sum := "52b9622d6ff5ca176b17e5ab51235c81fa90b7a57726f9f0796588bdfce417d2", func := "loop.example/discretetomography/laws.FnNeighbors", spec := "fnNeighbors", unfollowed := true, recurses := true, apart := false }
def FnNeighborsSaid : Prop := fnNeighborsRow.holds Try.pinned (OpenSpec.ofChange fnNeighborsSpec)

/-- ITS FALSE NEIGHBOUR: 'it returns false'. Refute it at one input. -/
def fnNeighborsWrong : ChangeSpec := { name := "fnNeighbors", fn := fun _ => fun
  | [d] => { results := [.lit (.bool false)], args := [d] }
  | _ => none }
def FnNeighborsWrongFalsely : Prop := fnNeighborsRow.holds Try.pinned (OpenSpec.ofChange fnNeighborsWrong)

/-- 'laws.FnNeighborsMany': WHATEVER THE INPUT: true; the input reads as it did. -/
def fnNeighborsManySpec : ChangeSpec := { name := "fnNeighborsMany", fn := fun _ => fun
  | [d1, d2] => { results := [.lit (.bool true)], args := [d1, d2] }
  | _ => none }
def fnNeighborsManyRow : OpenClaim := { program := "ytpcfijlhaakhpaa", sum := "52b9622d6ff5ca176b17e5ab51235c81fa90b7a57726f9f0796588bdfce417d2", func := "loop.example/discretetomography/laws.FnNeighborsMany", spec := "fnNeighborsMany", unfollowed := true, recurses := true, apart := false }
def FnNeighborsManySaid : Prop := fnNeighborsManyRow.holds Try.pinned (OpenSpec.ofChange fnNeighborsManySpec)

/-- ITS FALSE NEIGHBOUR: 'it returns false'. Refute it at one input. -/
def fnNeighborsManyWrong : ChangeSpec := { name := "fnNeighborsMany", fn := fun _ => fun
  | [d1, d2] => { results := [.lit (.bool false)], args := [d1, d2] }
  | _ => none }
def FnNeighborsManyWrongFalsely : Prop := fnNeighborsManyRow.holds Try.pinned (OpenSpec.ofChange fnNeighborsManyWrong)

/-- 'laws.FnReachMore': WHATEVER THE INPUT: true; the input reads as it did. -/
def fnReachMoreSpec : ChangeSpec := { name := "fnReachMore", fn := fun _ => fun
  | [d] => { results := [.lit (.bool true)], args := [d] }
  | _ => none }
def fnReachMoreRow : OpenClaim := { program := "ytpcfijlhaakhpaa", sum := "52b9622d6ff5ca176b17e5ab51235c81fa90b7a57726f9f0796588bdfce417d2", func := "loop.example/discretetomography/laws.FnReachMore", spec := "fnReachMore", inPlace := ["internal/abi.NoEscape"], unfollowed := true, recurses := true, apart := false }
def FnReachMoreSaid : Prop := fnReachMoreRow.holds Try.pinned (OpenSpec.ofChange fnReachMoreSpec)

/-- ITS FALSE NEIGHBOUR: 'it returns false'. Refute it at one input. -/
def fnReachMoreWrong : ChangeSpec := { name := "fnReachMore", fn := fun _ => fun
  | [d] => { results := [.lit (.bool false)], args := [d] }
  | _ => none }
def FnReachMoreWrongFalsely : Prop := fnReachMoreRow.holds Try.pinned (OpenSpec.ofChange fnReachMoreWrong)

/-- 'laws.FnFarIff': WHATEVER THE INPUT: true; the input reads as it did. -/
def fnFarIffSpec : ChangeSpec := { name := "fnFarIff", fn := fun _ => fun
  | [d] => { results := [.lit (.bool true)], args := [d] }
  | _ => none }
def fnFarIffRow : OpenClaim := { program := "ytpcfijlhaakhpaa", sum := "52b9622d6ff5ca176b17e5ab51235c81fa90b7a57726f9f0796588bdfce417d2", func := "loop.example/discretetomography/laws.FnFarIff", spec := "fnFarIff", inPlace := ["internal/abi.NoEscape"], unfollowed := true, recurses := true, apart := false }
def FnFarIffSaid : Prop := fnFarIffRow.holds Try.pinned (OpenSpec.ofChange fnFarIffSpec)

/-- ITS FALSE NEIGHBOUR: 'it returns false'. Refute it at one input. -/
def fnFarIffWrong : ChangeSpec := { name := "fnFarIff", fn := fun _ => fun
  | [d] => { results := [.lit (.bool false)], args := [d] }
  | _ => none }
def FnFarIffWrongFalsely : Prop := fnFarIffRow.holds Try.pinned (OpenSpec.ofChange fnFarIffWrong)

/-- 'laws.FnReachAll': WHATEVER THE INPUT: true; the input reads as it did. -/
def fnReachAllSpec : ChangeSpec := { name := "fnReachAll", fn := fun _ => fun
  | [d] => { results := [.lit (.bool true)], args := [d] }
  | _ => none }
def fnReachAllRow : OpenClaim := { program := "ytpcfijlhaakhpaa", sum := "52b9622d6ff5ca176b17e5ab51235c81fa90b7a57726f9f0796588bdfce417d2", func := "loop.example/discretetomography/laws.FnReachAll", spec := "fnReachAll", inPlace := ["internal/abi.NoEscape"], unfollowed := true, recurses := true, apart := false }
def FnReachAllSaid : Prop := fnReachAllRow.holds Try.pinned (OpenSpec.ofChange fnReachAllSpec)

/-- ITS FALSE NEIGHBOUR: 'it returns false'. Refute it at one input. -/
def fnReachAllWrong : ChangeSpec := { name := "fnReachAll", fn := fun _ => fun
  | [d] => { results := [.lit (.bool false)], args := [d] }
  | _ => none }
def FnReachAllWrongFalsely : Prop := fnReachAllRow.holds Try.pinned (OpenSpec.ofChange fnReachAllWrong)

/-- 'laws.FnFar': WHATEVER THE INPUT: true; the input reads as it did. -/
def fnFarSpec : ChangeSpec := { name := "fnFar", fn := fun _ => fun
  | [d] => { results := [.lit (.bool true)], args := [d] }
  | _ => none }
def fnFarRow : OpenClaim := { program := "ytpcfijlhaakhpaa", sum := "52b9622d6ff5ca176b17e5ab51235c81fa90b7a57726f9f0796588bdfce417d2", func := "loop.example/discretetomography/laws.FnFar", spec := "fnFar", inPlace := ["internal/abi.NoEscape"], unfollowed := true, recurses := true, apart := false }
def FnFarSaid : Prop := fnFarRow.holds Try.pinned (OpenSpec.ofChange fnFarSpec)

/-- ITS FALSE NEIGHBOUR: 'it returns false'. Refute it at one input. -/
def fnFarWrong : ChangeSpec := { name := "fnFar", fn := fun _ => fun
  | [d] => { results := [.lit (.bool false)], args := [d] }
  | _ => none }
def FnFarWrongFalsely : Prop := fnFarRow.holds Try.pinned (OpenSpec.ofChange fnFarWrong)

/- THE SECOND FORM. 'bulk': how many values and letters a reading holds, each counted each time it is reached (what is shared counts as often as it is met; a slice's spare places count too). A statement '..UptoSaid' is the law's where the arguments, and the package variables that the reading takes, are together of bulk at most 1048576: NARROWER than '..Said'. Prove '..Said' where nothing that the law and all that it calls make is longer than what came in: it says more and counts as full. Else prove '..UptoSaid'. A law counts once. -/
mutual
def uptoBulk {H : Type} : DataW H → Nat
  | .lit (.string bytes) => bytes.length + 1
  | .lit _ => 1
  | .nil => 1
  | .ptr d => uptoBulk d + 1
  | .slice elems spare => uptoBulkAll elems + uptoBulkAll spare + 1
  | .agg parts => uptoBulkAll parts + 1
  | .iface _ d => uptoBulk d + 1
  | .map entries => uptoBulkEntries entries + 1
  | .held _ => 1
def uptoBulkAll {H : Type} : List (DataW H) → Nat
  | [] => 0
  | d :: r => uptoBulk d + uptoBulkAll r
def uptoBulkEntries {H : Type} : List (Lit × DataW H) → Nat
  | [] => 0
  | x :: r => uptoBulkEntry x + uptoBulkEntries r
def uptoBulkEntry {H : Type} : Lit × DataW H → Nat
  | (.string bytes, d) => bytes.length + uptoBulk d + 1
  | (_, d) => uptoBulk d + 1
 end
def uptoSmall : (H : Type) → List (DataW H) → Bool := fun _ ds => decide (uptoBulkAll ds ≤ 1048576)
def OpenSpec.upto (s : _root_.Go.ChangeSpec) : _root_.Go.OpenSpec := { _root_.Go.OpenSpec.ofChange s with cond := some uptoSmall }

/-- 'laws.FnNeighbors', WHERE WHAT IT READS IS OF BULK AT MOST 1048576: true; the input reads as it did. -/
def fnNeighborsUptoRow : OpenClaim := { program := "ytpcfijlhaakhpaa", sum := "52b9622d6ff5ca176b17e5ab51235c81fa90b7a57726f9f0796588bdfce417d2", func := "loop.example/discretetomography/laws.FnNeighbors", spec := "fnNeighbors", unfollowed := true, recurses := true, apart := false, narrowed := true }
def FnNeighborsUptoSaid : Prop := fnNeighborsUptoRow.holds Try.pinned (OpenSpec.upto fnNeighborsSpec)

/-- 'laws.FnNeighborsMany', WHERE WHAT IT READS IS OF BULK AT MOST 1048576: true; the input reads as it did. -/
def fnNeighborsManyUptoRow : OpenClaim := { program := "ytpcfijlhaakhpaa", sum := "52b9622d6ff5ca176b17e5ab51235c81fa90b7a57726f9f0796588bdfce417d2", func := "loop.example/discretetomography/laws.FnNeighborsMany", spec := "fnNeighborsMany", unfollowed := true, recurses := true, apart := false, narrowed := true }
def FnNeighborsManyUptoSaid : Prop := fnNeighborsManyUptoRow.holds Try.pinned (OpenSpec.upto fnNeighborsManySpec)

/-- 'laws.FnReachMore', WHERE WHAT IT READS IS OF BULK AT MOST 1048576: true; the input reads as it did. -/
def fnReachMoreUptoRow : OpenClaim := { program := "ytpcfijlhaakhpaa", sum := "52b9622d6ff5ca176b17e5ab51235c81fa90b7a57726f9f0796588bdfce417d2", func := "loop.example/discretetomography/laws.FnReachMore", spec := "fnReachMore", inPlace := ["internal/abi.NoEscape"], unfollowed := true, recurses := true, apart := false, narrowed := true }
def FnReachMoreUptoSaid : Prop := fnReachMoreUptoRow.holds Try.pinned (OpenSpec.upto fnReachMoreSpec)

/-- 'laws.FnFarIff', WHERE WHAT IT READS IS OF BULK AT MOST 1048576: true; the input reads as it did. -/
def fnFarIffUptoRow : OpenClaim := { program := "ytpcfijlhaakhpaa", sum := "52b9622d6ff5ca176b17e5ab51235c81fa90b7a57726f9f0796588bdfce417d2", func := "loop.example/discretetomography/laws.FnFarIff", spec := "fnFarIff", inPlace := ["internal/abi.NoEscape"], unfollowed := true, recurses := true, apart := false, narrowed := true }
def FnFarIffUptoSaid : Prop := fnFarIffUptoRow.holds Try.pinned (OpenSpec.upto fnFarIffSpec)

/-- 'laws.FnReachAll', WHERE WHAT IT READS IS OF BULK AT MOST 1048576: true; the input reads as it did. -/
def fnReachAllUptoRow : OpenClaim := { program := "ytpcfijlhaakhpaa", sum := "52b9622d6ff5ca176b17e5ab51235c81fa90b7a57726f9f0796588bdfce417d2", func := "loop.example/discretetomography/laws.FnReachAll", spec := "fnReachAll", inPlace := ["internal/abi.NoEscape"], unfollowed := true, recurses := true, apart := false, narrowed := true }
def FnReachAllUptoSaid : Prop := fnReachAllUptoRow.holds Try.pinned (OpenSpec.upto fnReachAllSpec)

/-- 'laws.FnFar', WHERE WHAT IT READS IS OF BULK AT MOST 1048576: true; the input reads as it did. -/
def fnFarUptoRow : OpenClaim := { program := "ytpcfijlhaakhpaa", sum := "52b9622d6ff5ca176b17e5ab51235c81fa90b7a57726f9f0796588bdfce417d2", func := "loop.example/discretetomography/laws.FnFar", spec := "fnFar", inPlace := ["internal/abi.NoEscape"], unfollowed := true, recurses := true, apart := false, narrowed := true }
def FnFarUptoSaid : Prop := fnFarUptoRow.holds Try.pinned (OpenSpec.upto fnFarSpec)

end Rows
end Go.Proofs.Ytpcfijlhaakhpaa
