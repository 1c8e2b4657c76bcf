
/- Walks: drawn images of the laws on neighbors; images compared. -/
import Derived.Test.YtpoojghommfklaaKe
import Derived.Test.YtpoojghommfklaaKb
namespace Go.Proofs.Ytpoojghommfklaa
open Go.RowKit
set_option maxRecDepth 100000

/-- A drawn image in new memory. -/
def DrawnImg (w : World) (e : Ending) (w' : World) : Prop :=
  ∃ (W : Int) (A : Option Addr) (n c : Nat) (xs : List Int), e = .returned (.agg #[.int .i64 W, .slice A n c]) ∧ n ≤ 6 ∧ Own w' w.heap.size A n xs ∧ Below w.heap.size w w'

end Go.Proofs.Ytpoojghommfklaa
