/- Plain facts and walks that the law's proof uses; each says its own conditions. -/
import Derived.Test.YtpeiolimdglmhaaGreatDoorZ14
import Derived.Deep.RegionHeld3
import Derived.Deep.AppendLies
-- An append at a step of a region that draws its order.
namespace Go.Proofs.YtpeiolimdglmhaaGreatDoor
open Go.RowKit
set_option maxRecDepth 100000

theorem Buf.empty (w : World) {base : Nat} (hb : base ≤ w.heap.size) : Buf (w.alloc (.cells #[] 3)) base (some ⟨w.heap.size, 0, none⟩) 0 [] :=
  ⟨rfl, .inr ⟨w.heap.size, 0, #[], rfl, hb, Blk.new _ _ _, Nat.le_refl _, Nat.zero_le _, rfl, rfl⟩⟩

end Go.Proofs.YtpeiolimdglmhaaGreatDoor
