
/- Walks: the iterator over an image's cells. -/
import Derived.RangeFuncNested
import Derived.RangeFuncBound
import Derived.RangeFuncCalls
import Derived.RangeFuncLeaves
import Derived.Shelf.Abstract
import Derived.Shelf.RegionOpen
import Derived.OwnWalkIn
import Derived.TacticsInMore
import Derived.LoopNIn
import Derived.LoopIn
import Derived.Test.YtnoegpdgcejbnaaWa
import Derived.Test.YtnoegpdgcejbnaaMathG
namespace Go.Proofs.Ytnoegpdgcejbnaa
open Go.RowKit Go.Shelf
attribute [local go_sem] Oper.semAt_some

/-- block B lies as it lay -/
def KB (B : Nat) (W W' : World) : Prop := W'.heap[B]? = W.heap[B]?
theorem KB.refl (B : Nat) (W : World) : KB B W W := rfl
theorem KB.trans {B : Nat} {a b c : World} (h : KB B a b) (k : KB B b c) : KB B a c := Eq.trans k h
theorem KB.put {B : Nat} {w : World} (hB : B < w.heap.size) (W : World) (l : Nat) (o o' : Obj) (hl : w.heap.size ≤ l) (_ : W.heap[l]? = some o) (_ : o.isCells = false) (_ : o.isWalk = false) : KB B W (W.putObj l o') :=
  World.putObj_heap_other (by omega)
theorem KB.cell {B i : Nat} {W W' : World} (h : KB B W W') : W'.cell? ⟨B, i, none⟩ = W.cell? ⟨B, i, none⟩ := World.cell?_of_block h
theorem KB.of_grown {B : Nat} {W W' : World} {row : Option Nat} (h : W.grownBy W' row) (hB : B < W.heap.size) (hr : row ≠ some B) : KB B W W' := h.block B hB (fun e => hr e.symm)
theorem KB.of_below {B : Nat} {W W' : World} (h : Below W.heap.size W W') (hB : B < W.heap.size) : KB B W W' := h.block B hB

theorem keeps_below {W W' : World} (h : Below W.heap.size W W') : KeepsOthers W W' :=
  ⟨h.size, fun k _ hk _ => (h.block k (Array.getElem?_eq_some_iff.1 hk).1).trans hk⟩
end Go.Proofs.Ytnoegpdgcejbnaa
