
/- Walks: the law's own helpers over images. -/
import Derived.Test.YtjogfeichnkffaaWa
namespace Go.Proofs.Ytjogfeichnkffaa
open Go.RowKit

set_option maxHeartbeats 400000 in
theorem eqImage_t (W : Int) (A B : Option Addr) (n m c d : Nat) (xs : List Int) (w : World) (hr : Rd w A n xs) (hs : Rd w B m xs) (hn : n ≤ 1073741824) :
    Calls Try.prog 13 #[.agg #[.int .i64 W, .slice A n c], .agg #[.int .i64 W, .slice B m d]] w fun e w' => e = .returned (.bool true) ∧ Below w.heap.size w w' := by
  go_enter Try.func13, Try.ntmps13
  go_wp2_with fail
  refine (eqIntS_t _ _ _ _ _ _ xs _ ((hr.alloc _).alloc _) ((hs.alloc _).alloc _) hn).mono ?_
  rintro e w1 ⟨rfl, hb⟩
  go_wp2
  go_ret
  exact ⟨rfl, by (repeat (first | exact Below.refl _ _ | assumption | refine lo_alloc ?_ _ | refine lo_set ?_ (by simp; try omega) _ | refine Below.drew ?_ | refine below_drewN ?_ _ | refine lo_trans ?_ (by assumption) | refine lo_wr ?_ (by assumption) (by omega)))⟩

end Go.Proofs.Ytjogfeichnkffaa
