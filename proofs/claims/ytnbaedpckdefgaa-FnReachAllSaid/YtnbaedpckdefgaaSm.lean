
/- Walks: the sums of two images compared; their distance. -/
import Derived.Test.YtnbaedpckdefgaaSu
import Derived.Test.YtnbaedpckdefgaaWg
import Derived.Test.YtnbaedpckdefgaaMathU
import Derived.Deep.RegionHeld3
namespace Go.Proofs.Ytnbaedpckdefgaa
open Go.RowKit
set_option maxRecDepth 100000

/-- two valid images of one size -/
def sizeB (W : Int) (xs : List Int) (V : Int) (ys : List Int) : Bool := okB W xs && okB V ys && decide (W = V) && decide (xs.length = ys.length)
theorem sizeB_out {W V : Int} {xs ys : List Int} (h : sizeB W xs V ys = true) : ∃ m : Nat, W = m ∧ V = m ∧ okB (m : Int) xs = true ∧ okB (m : Int) ys = true ∧ xs.length = ys.length := by
  simp only [sizeB, Bool.and_eq_true, decide_eq_true_eq] at h
  obtain ⟨⟨⟨h1, h2⟩, rfl⟩, h4⟩ := h
  obtain ⟨m, rfl⟩ := Int.eq_ofNat_of_zero_le (show 0 ≤ W by have := okB_bd h1; omega)
  exact ⟨m, rfl, rfl, h1, h2, h4⟩
theorem sizeB_mk {m : Nat} {xs ys : List Int} (h1 : okB (m : Int) xs = true) (h2 : okB (m : Int) ys = true) (h3 : xs.length = ys.length) : sizeB (m : Int) xs (m : Int) ys = true := by
  simp [sizeB, h1, h2, h3]

/-- SumsFit -/
def sFit (W : Int) (xs r c : List Int) : Bool := okB W xs && decide (rSums W xs = r) && decide (cSums W xs = c)
end Go.Proofs.Ytnbaedpckdefgaa
