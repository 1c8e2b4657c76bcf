
/- Walks: the distance of two images. -/
import Derived.Test.YtnbaedpckdefgaaSm
import Derived.Deep.QuietTactic
import Derived.BigQuiet
namespace Go.Proofs.Ytnbaedpckdefgaa
open Go.RowKit
set_option maxRecDepth 100000

/-- the first k rows compared -/
def distK (xs ys : List Int) (k : Nat) : Nat := sumN k (fun i => pop ((xs[i]?.getD 0).toNat ^^^ (ys[i]?.getD 0).toNat))
theorem distK_le (xs ys : List Int) (k : Nat) : distK xs ys k ≤ k * 6 := sumN_le_mul fun _ _ => pop_le _

/-- ImageDistance -/
def distW (W : Int) (xs : List Int) (V : Int) (ys : List Int) : Int := if sizeB W xs V ys then (distX xs ys : Int) else -1
end Go.Proofs.Ytnbaedpckdefgaa
