
/- Walks: the reference's weights, its image. -/
import Derived.Test.YtjogfeichnkffaaWc
namespace Go.Proofs.Ytjogfeichnkffaa
open Go.RowKit

set_option maxHeartbeats 400000 in
theorem l1Blank_c (h m : Nat) (w : World) (hh : h ≤ 1073741824) :
    Calls Try.prog 55 #[.int .i64 h, .int .i64 m] w fun e w' => ∃ g, e = .returned (.agg #[.int .i64 m, .slice (some ⟨g, 0, none⟩) h h]) ∧ Below w.heap.size w w' ∧ Blk w' g 3 (ints (List.replicate h 0)) ∧ w.heap.size ≤ g ∧ g < w'.heap.size := by
  have hmk := make_row h hh
  go_enter Try.func55, Try.ntmps55
  go_wp2
  refine bodyPost_ret (v := .agg #[.int .i64 m, .slice (some ⟨w.heap.size + 1, 0, none⟩) h h]) (by simp [results, Try.results55, go_sem]) rfl ⟨_, rfl, ?_, ?_, by omega, by simp⟩
  · (repeat (first | exact Below.refl _ _ | assumption | refine lo_alloc ?_ _ | refine lo_set ?_ (by simp; try omega) _ | refine Below.drew ?_ | refine below_drewN ?_ _ | refine lo_trans ?_ (by assumption) | refine lo_wr ?_ (by assumption) (by omega)))
  · rw [← made_ints]
    exact heap_at2 _ _ _ _

theorem put_mk (f : Nat → Bool) (j : Nat) (b : Bool) (h : f j = b) : put (mkRow f j) j b = mkRow f (j + 1) := by
  simp only [put, mkRow_div, mkRow, h]
  cases b <;> simp

end Go.Proofs.Ytjogfeichnkffaa
