/-
  No cell of these rows narrows 'for every input' (looked for: loops, veiled, ifaces, maps, wideKeys, modest, calm, conditions, laid).
  DERIVED. THE GIVEN ROWS OF THIS SEAT. 2 by the template 'for every input the law returns true; each argument reads behind the call as it read before'; 0 by the template 'total and deterministic' (their statements: YtnoegpdgcejbnaaTotals.lean).
  GIVEN WITH THE SEED: the statements are not yours to turn. If you find one false, say at which input.
  Laid BY PROGRAM, IN A SANDBOX (cutbox-rows.mjs): the forced cells as the released guide's own fill.sh prints them over the translation c186fcccc86b7a15… (all of the seat's roots in one cut). By AI agents, Wed Nov 11 2026. No macro, syntax, notation, axiom, sorry.
-/
import Derived.Test.YtnoegpdgcejbnaaChecked
import GoSem.Claim
import GoSem.ClaimJoined
import GoSem.ClaimMapViews
import Derived.JoinedTies
import Derived.KernelRfl
namespace Go.Proofs.Ytnoegpdgcejbnaa
/- THE CELL 'sum', in the pinned program and in every row, IS THE sha256 OF THE DUMP (.gsa) THAT YtnoegpdgcejbnaaProg.lean LOADS. Nothing in Lean hashes anything: it is a label: what it is worth is what the hold of that sum in a sandbox is worth. -/
noncomputable def Try.pinned : Pinned := { name := "ytnoegpdgcejbnaa", sum := "c186fcccc86b7a15af8b84a4c0aa799453fadf36c2c20b115e353d1847b41561", checked := Try.checked }
namespace Rows
def none {H : Type} : Left H := { results := [], args := [] }

/-- 'laws.FnExactImageNeighbors': WHATEVER THE INPUT: true; the input reads as it did. -/
def fnExactImageNeighborsSpec : ChangeSpec := { name := "fnExactImageNeighbors", fn := fun _ => fun
  | [d] => { results := [.lit (.bool true)], args := [d] }
  | _ => none }
def fnExactImageNeighborsRow : OpenClaim := { program := "ytnoegpdgcejbnaa", sum := "c186fcccc86b7a15af8b84a4c0aa799453fadf36c2c20b115e353d1847b41561", func := "loop.example/discretetomography/laws.FnExactImageNeighbors", spec := "fnExactImageNeighbors", unfollowed := true, recurses := true, apart := false }
def FnExactImageNeighborsSaid : Prop := fnExactImageNeighborsRow.holds Try.pinned (OpenSpec.ofChange fnExactImageNeighborsSpec)

/-- ITS FALSE NEIGHBOUR: 'it returns false'. Refute it at one input. -/
def fnExactImageNeighborsWrong : ChangeSpec := { name := "fnExactImageNeighbors", fn := fun _ => fun
  | [d] => { results := [.lit (.bool false)], args := [d] }
  | _ => none }
def FnExactImageNeighborsWrongFalsely : Prop := fnExactImageNeighborsRow.holds Try.pinned (OpenSpec.ofChange fnExactImageNeighborsWrong)

/-- 'laws.FnNeighborsBack': WHATEVER THE INPUT: true; the input reads as it did. -/
def fnNeighborsBackSpec : ChangeSpec := { name := "fnNeighborsBack", fn := fun _ => fun
  | [d1, d2] => { results := [.lit (.bool true)], args := [d1, d2] }
  | _ => none }
def fnNeighborsBackRow : OpenClaim := { program := "ytnoegpdgcejbnaa", sum := "c186fcccc86b7a15af8b84a4c0aa799453fadf36c2c20b115e353d1847b41561", func := "loop.example/discretetomography/laws.FnNeighborsBack", spec := "fnNeighborsBack", unfollowed := true, recurses := true, apart := false }
def FnNeighborsBackSaid : Prop := fnNeighborsBackRow.holds Try.pinned (OpenSpec.ofChange fnNeighborsBackSpec)

/-- ITS FALSE NEIGHBOUR: 'it returns false'. Refute it at one input. -/
def fnNeighborsBackWrong : ChangeSpec := { name := "fnNeighborsBack", fn := fun _ => fun
  | [d1, d2] => { results := [.lit (.bool false)], args := [d1, d2] }
  | _ => none }
def FnNeighborsBackWrongFalsely : Prop := fnNeighborsBackRow.holds Try.pinned (OpenSpec.ofChange fnNeighborsBackWrong)

/- THE SECOND FORM. 'bulk': how many values and letters a reading holds, each counted each time it is reached (what is shared counts as often as it is met; a slice's spare places count too). A statement '..UptoSaid' is the law's where the arguments, and the package variables that the reading takes, are together of bulk at most 1048576: NARROWER than '..Said'. Prove '..Said' where nothing that the law and all that it calls make is longer than what came in: it says more and counts as full. Else prove '..UptoSaid'. A law counts once. -/
mutual
def uptoBulk {H : Type} : DataW H → Nat
  | .lit (.string bytes) => bytes.length + 1
  | .lit _ => 1
  | .nil => 1
  | .ptr d => uptoBulk d + 1
  | .slice elems spare => uptoBulkAll elems + uptoBulkAll spare + 1
  | .agg parts => uptoBulkAll parts + 1
  | .iface _ d => uptoBulk d + 1
  | .map entries => uptoBulkEntries entries + 1
  | .held _ => 1
def uptoBulkAll {H : Type} : List (DataW H) → Nat
  | [] => 0
  | d :: r => uptoBulk d + uptoBulkAll r
def uptoBulkEntries {H : Type} : List (Lit × DataW H) → Nat
  | [] => 0
  | x :: r => uptoBulkEntry x + uptoBulkEntries r
def uptoBulkEntry {H : Type} : Lit × DataW H → Nat
  | (.string bytes, d) => bytes.length + uptoBulk d + 1
  | (_, d) => uptoBulk d + 1
 end
def uptoSmall : (H : Type) → List (DataW H) → Bool := fun _ ds => decide (uptoBulkAll ds ≤ 1048576)
def OpenSpec.upto (s : _root_.Go.ChangeSpec) : _root_.Go.OpenSpec := { _root_.Go.OpenSpec.ofChange s with cond := some uptoSmall }

/-- 'laws.FnExactImageNeighbors', WHERE WHAT IT READS IS OF BULK AT MOST 1048576: true; the input reads as it did. -/
def fnExactImageNeighborsUptoRow : OpenClaim := { program := "ytnoegpdgcejbnaa", sum := "c186fcccc86b7a15af8b84a4c0aa799453fadf36c2c20b115e353d1847b41561", func := "loop.example/discretetomography/laws.FnExactImageNeighbors", spec := "fnExactImageNeighbors", unfollowed := true, recurses := true, apart := false, narrowed := true }
def FnExactImageNeighborsUptoSaid : Prop := fnExactImageNeighborsUptoRow.holds Try.pinned (OpenSpec.upto fnExactImageNeighborsSpec)

/-- 'laws.FnNeighborsBack', WHERE WHAT IT READS IS OF BULK AT MOST 1048576: true; the input reads as it did. -/
def fnNeighborsBackUptoRow : OpenClaim := { program := "ytnoegpdgcejbnaa", sum := "c186fcccc86b7a15af8b84a4c0aa799453fadf36c2c20b115e353d1847b41561", func := "loop.example/discretetomography/laws.FnNeighborsBack", spec := "fnNeighborsBack", unfollowed := true, recurses := true, apart := false, narrowed := true }
def FnNeighborsBackUptoSaid : Prop := fnNeighborsBackUptoRow.holds Try.pinned (OpenSpec.upto fnNeighborsBackSpec)

end Rows
end Go.Proofs.Ytnoegpdgcejbnaa
