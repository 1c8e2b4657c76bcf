
/- Walks: drawn images of the laws on neighbors; images compared. -/
import Derived.Test.YtnbaedpckdefgaaKe
import Derived.Test.YtnbaedpckdefgaaKb
namespace Go.Proofs.Ytnbaedpckdefgaa
open Go.RowKit
set_option maxRecDepth 100000

/-- A drawn image in new memory. -/
def DrawnImg (w : World) (e : Ending) (w' : World) : Prop :=
  ∃ (W : Int) (A : Option Addr) (n c : Nat) (xs : List Int), e = .returned (.agg #[.int .i64 W, .slice A n c]) ∧ n ≤ 6 ∧ Own w' w.heap.size A n xs ∧ Below w.heap.size w w'

set_option maxHeartbeats 1000000 in
theorem lsameImage_c (W V : Int) (A B : Option Addr) (n m c d : Nat) (xs ys : List Int) (w : World) (hr : Rd w A n xs) (hs : Rd w B m ys) (hn : n ≤ 1073741824) :
    Calls Try.prog 14 #[.agg #[.int .i64 W, .slice A n c], .agg #[.int .i64 V, .slice B m d]] w fun e w' => e = .returned (.bool (decide (W = V) && decide (xs = ys))) ∧ Below w.heap.size w w' := by
  by_cases h : W = V
  · have h' : (W == V) = true := beq_iff_eq.2 h
    have hh := Lib.hid h; clear h
    go_enter Try.func14, Try.ntmps14
    go_wp2_with fail
    refine (sameInts_c _ _ _ _ _ _ xs ys _ ((hr.alloc _).alloc _) ((hs.alloc _).alloc _) hn).mono ?_
    rintro e w1 ⟨rfl, hb⟩
    go_wp2
    go_ret
    exact ⟨ret_bool (by rw [hh.out]; simp), by (repeat (first | exact Below.refl _ _ | assumption | refine lo_alloc ?_ _ | refine lo_set ?_ (by simp; try omega) _ | refine Below.drew ?_ | refine below_drewN ?_ _ | refine lo_trans ?_ (by assumption) | refine lo_wr ?_ (by assumption) (by omega)))⟩
  · have h' : (W == V) = false := beq_eq_false_iff_ne.2 h
    have hh := Lib.hid h; clear h
    go_enter Try.func14, Try.ntmps14
    go_wp2
    go_ret
    exact ⟨ret_bool (by simp [hh.out]), by (repeat (first | exact Below.refl _ _ | assumption | refine lo_alloc ?_ _ | refine lo_set ?_ (by simp; try omega) _ | refine Below.drew ?_ | refine below_drewN ?_ _ | refine lo_trans ?_ (by assumption) | refine lo_wr ?_ (by assumption) (by omega)))⟩
end Go.Proofs.Ytnbaedpckdefgaa
