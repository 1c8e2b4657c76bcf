
/- Walks: slices of images compared, marked, held. -/
import Derived.Test.YtkcdoacojiilaaaGreatKl
import Derived.Test.YtkcdoacojiilaaaGreatKb
namespace Go.Proofs.YtkcdoacojiilaaaGreat
open Go.RowKit
set_option maxRecDepth 100000

theorem Els.at_ {es : List El} {W : Int} {ys : List (List Int)} (h : Els es W ys) {k : Nat} {e : El} (he : es[k]? = some e) : e.W = W ∧ ys[k]? = some e.xs := by
  refine ⟨h.2 e (List.mem_of_getElem? he), ?_⟩
  rw [← h.1, List.getElem?_map, he]; rfl

end Go.Proofs.YtkcdoacojiilaaaGreat
