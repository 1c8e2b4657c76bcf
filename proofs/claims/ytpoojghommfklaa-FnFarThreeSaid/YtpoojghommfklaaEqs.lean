
/- Walks: slices of images compared, marked, held. -/
import Derived.Test.YtpoojghommfklaaKl
import Derived.Test.YtpoojghommfklaaKb
namespace Go.Proofs.Ytpoojghommfklaa
open Go.RowKit
set_option maxRecDepth 100000

theorem Els.at_ {es : List El} {W : Int} {ys : List (List Int)} (h : Els es W ys) {k : Nat} {e : El} (he : es[k]? = some e) : e.W = W ∧ ys[k]? = some e.xs := by
  refine ⟨h.2 e (List.mem_of_getElem? he), ?_⟩
  rw [← h.1, List.getElem?_map, he]; rfl

end Go.Proofs.Ytpoojghommfklaa
