
/- Walks: a copy of an image; the image's other cells. -/
import Derived.Test.YtkcdoacojiilaaaKf
import Derived.Test.YtkcdoacojiilaaaKb
import Derived.Test.YtkcdoacojiilaaaCn
import Derived.Deep.RegionHeld3
import Derived.Test.YtkcdoacojiilaaaKd
namespace Go.Proofs.Ytkcdoacojiilaaa
open Go.RowKit

def otherW (W : Int) (xs : List Int) : Int := if okB W xs then W else 0
def otherX (W : Int) (xs : List Int) : List Int := if okB W xs then img (fun i j => !cellF xs i j) xs.length W.toNat else []
theorem other_row {r m : Nat} (hr : r < 2 ^ m) : r ^^^ (2 ^ m - 1) = mkRow (fun j => !r.testBit j) m := by
  have hp : 0 < 2 ^ m := Nat.pow_pos (by omega)
  refine row_ext (Nat.xor_lt_two_pow hr (by omega)) (mkRow_lt _ _) (fun j hj => ?_)
  rw [Nat.testBit_xor, Nat.testBit_two_pow_sub_one, testBit_mkRow]
  simp [hj]
theorem okB_row {W : Int} {xs : List Int} {m : Nat} (h : okB W xs = true) (hW : W = m) {k : Nat} (hk : k < xs.length) : ∃ r : Nat, xs[k]?.getD 0 = (r : Int) ∧ r < 2 ^ m := by
  have h1 := allIn_at (okB_all h) k hk
  subst hW
  rw [Int.toNat_natCast] at h1
  have e : ((2 ^ m : Nat) : Int) = (2 : Int) ^ m := by simp
  exact ⟨(xs[k]?.getD 0).toNat, by omega, by omega⟩
theorem other_step {m k r : Nat} {xs : List Int} (hk : k < xs.length) (hx : xs[k]?.getD 0 = (r : Int)) (hr : r < 2 ^ m) :
    ((img (fun i j => !cellF xs i j) xs.length m).take k ++ xs.drop k).set k ((r ^^^ (2 ^ m - 1) : Nat) : Int) = (img (fun i j => !cellF xs i j) xs.length m).take (k + 1) ++ xs.drop (k + 1) := by
  refine take_drop_set _ _ _ _ hk ?_
  rw [img_get' hk, other_row hr]
  simp only [cellF, hx, Int.toNat_natCast]

end Go.Proofs.Ytkcdoacojiilaaa
