
/- Walks: drawn weights with an image. -/
import Derived.Test.YtjogfeichnkffaaDu
namespace Go.Proofs.Ytjogfeichnkffaa
open Go.RowKit
set_option maxRecDepth 100000

theorem Own.cellAt {w : World} {lo g n k : Nat} {xs : List Int} (h : Own w lo (some ⟨g, 0, none⟩) n xs) (hk : k < n) : w.cell? ⟨g, k, none⟩ = some (.int .i64 (xs[k]?.getD 0)) := by
  obtain ⟨g', e, _, _, hc, _⟩ := h.at_ hk
  cases e
  exact hc
theorem Own.ltAt {w : World} {lo g n k : Nat} {xs : List Int} (h : Own w lo (some ⟨g, 0, none⟩) n xs) (hk : k < n) : g < w.heap.size := by
  obtain ⟨g', e, _, hl, _⟩ := h.at_ hk
  cases e
  exact hl

def DrawnFit (w : World) (e : Ending) (w' : World) : Prop :=
  ∃ (W : Int) (A : Option Addr) (n c : Nat) (P : Option Addr) (l a : Nat) (Q : Option Addr) (m d : Nat) (xs p q : List Int), e = .returned (.tuple #[.agg #[.int .i64 W, .slice A n c], .slice P l a, .slice Q m d]) ∧ n ≤ 6 ∧ l ≤ 6 ∧ m ≤ 6 ∧
    Own w' w.heap.size A n xs ∧ Own w' w.heap.size P l p ∧ Own w' w.heap.size Q m q ∧ Below w.heap.size w w'

theorem fin_cells {w wr : World} {v0 v1 : Value} (hK : Blk wr w.heap.size 27 #[v0, v1]) (hB : Below w.heap.size w wr) (u0 u1 : Value) :
    (((wr.setCell ⟨w.heap.size, 0, none⟩ u0).setCell ⟨w.heap.size, 1, none⟩ u1).cell? ⟨w.heap.size, 0, none⟩ = some u0) ∧ (((wr.setCell ⟨w.heap.size, 0, none⟩ u0).setCell ⟨w.heap.size, 1, none⟩ u1).cell? ⟨w.heap.size, 1, none⟩ = some u1) ∧
    Below w.heap.size w ((wr.setCell ⟨w.heap.size, 0, none⟩ u0).setCell ⟨w.heap.size, 1, none⟩ u1) := by
  have h := (hK.set_ 0 u0).set_ 1 u1
  exact ⟨by rw [h.cell]; rfl, by rw [h.cell]; rfl, (hB.setCell (by simp) _).setCell (by simp) _⟩

end Go.Proofs.Ytjogfeichnkffaa
