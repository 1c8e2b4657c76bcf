
/- Walks: the program's weights. -/
import Derived.Test.YtnoegpdgcejbnaaWa
import Derived.Test.YtnoegpdgcejbnaaMath
import Derived.RegionTactic
namespace Go.Proofs.Ytnoegpdgcejbnaa
open Go.RowKit

theorem wIn_all {p : List Int} (h : ∀ k, k < p.length → -99 ≤ p[k]?.getD 0 ∧ p[k]?.getD 0 ≤ 99) : p.all (fun x => decide (-99 ≤ x) && decide (x ≤ 99)) = true := by
  simp only [List.all_eq_true, Bool.and_eq_true, decide_eq_true_eq]
  intro x hx
  obtain ⟨i, hi, rfl⟩ := List.getElem_of_mem hx
  simpa [List.getElem?_eq_getElem hi] using h i hi
theorem wIn_no {p : List Int} {k : Nat} (hk : k < p.length) (h : ¬ (-99 ≤ p[k]?.getD 0 ∧ p[k]?.getD 0 ≤ 99)) : wIn p = false := by
  cases e : wIn p with
  | false => rfl
  | true => exact absurd (wIn_at e k hk) h
theorem wIn_eq {p : List Int} (h : ∀ k, k < p.length → -99 ≤ p[k]?.getD 0 ∧ p[k]?.getD 0 ≤ 99) : wIn p = (decide (1 ≤ p.length) && decide (p.length ≤ 6)) := by
  simp [wIn, wIn_all h]

theorem wW_no {p q : List Int} (h : wOk p q = false) : wW p q = 0 ∧ wX p q = [] := by simp [wW, wX, h]
theorem wW_yes {p q : List Int} (h : wOk p q = true) : wW p q = q.length ∧ wX p q = img (wF p q) p.length q.length := by simp [wW, wX, h]

/-- what lies in memory while an image is filled: the result's cells, the image's, its rows -/
def WInv (w wr : World) (o g n m : Nat) (xs : List Int) : Prop :=
  Below w.heap.size w wr ∧ Blk wr w.heap.size 28 #[.int .i64 0, .slice none 0 0] ∧ Blk wr o 28 #[.int .i64 m, .slice (some ⟨g, 0, none⟩) n n] ∧ Blk wr g 3 (ints xs)
theorem WInv.step {w wr w3 : World} {o g n m : Nat} {xs ys : List Int} (h : WInv w wr o g n m xs) (h1 : w.heap.size < g) (h2 : g ≠ o) (hg : wr.grownBy w3 (some g)) (hb : Blk w3 g 3 (ints ys)) : WInv w w3 o g n m ys :=
  ⟨lo_grown h.1 hg (by rintro _ ⟨⟩; omega), h.2.1.grown hg (by intro e; injection e; omega), h.2.2.1.grown hg (by intro e; injection e; omega), hb⟩
theorem WInv.cells {w wr : World} {o g n m : Nat} {xs : List Int} (h : WInv w wr o g n m xs) :
    wr.cell? ⟨w.heap.size, 0, none⟩ = some (.int .i64 0) ∧ wr.cell? ⟨w.heap.size, 1, none⟩ = some (.slice none 0 0) ∧ wr.frozen? ⟨w.heap.size, 0, none⟩ = false ∧ wr.frozen? ⟨w.heap.size, 1, none⟩ = false ∧
    wr.cell? ⟨o, 0, none⟩ = some (.int .i64 m) ∧ wr.cell? ⟨o, 1, none⟩ = some (.slice (some ⟨g, 0, none⟩) n n) :=
  ⟨h.2.1.cell 0, h.2.1.cell 1, h.2.1.frozen 0, h.2.1.frozen 1, h.2.2.1.cell 0, h.2.2.1.cell 1⟩

end Go.Proofs.Ytnoegpdgcejbnaa
