
/- Walks: the sums of two images compared; their distance (2). -/
import Derived.Test.YtnbaedpckdefgaaSm
import Derived.Deep.RegionWith
namespace Go.Proofs.Ytnbaedpckdefgaa
open Go.RowKit
set_option maxRecDepth 100000

theorem rSums_len (W : Int) (xs : List Int) : (rSums W xs).length ≤ 6 := by
  cases h : okB W xs with
  | false => simp [rSums, h]
  | true => have := okB_bd h; simp [rSums, h, rsum]; omega
theorem cSums_len (W : Int) (xs : List Int) : (cSums W xs).length ≤ 6 := by
  cases h : okB W xs with
  | false => simp [cSums, h]
  | true => have := okB_bd h; simp [cSums, h, csum]; omega
/-- SumsSame -/
def sameB (W : Int) (xs : List Int) (V : Int) (ys : List Int) : Bool := sizeB W xs V ys && sFit W xs (rSums V ys) (cSums V ys)

end Go.Proofs.Ytnbaedpckdefgaa
