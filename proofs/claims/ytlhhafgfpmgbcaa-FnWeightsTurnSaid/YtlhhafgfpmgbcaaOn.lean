/- Walks: how many bits of a row are set. -/
import Derived.Test.YtlhhafgfpmgbcaaWa
import Derived.Test.YtlhhafgfpmgbcaaMathC
namespace Go.Proofs.Ytlhhafgfpmgbcaa
open Go.RowKit

set_option maxHeartbeats 1000000 in
theorem ones64_c (r : Nat) (w : World) (hr : r < 64) :
    Calls Try.prog 62 #[.int .u64 r] w fun e w' => e = .returned (.int .i64 (pop r : Nat)) ∧ w = w' := by
  go_enter Try.func62, Try.ntmps62
  go_wp2
  go_ret
  refine ⟨ret_int ?_, rfl⟩
  clear w
  revert hr
  revert r
  decide +kernel

set_option maxHeartbeats 1000000 in
theorem ones_c (r : Nat) (w : World) (hr : r < 64) :
    Calls Try.prog 45 #[.int .i64 r] w fun e w' => e = .returned (.int .i64 (pop r : Nat)) ∧ w = w' := by
  go_enter Try.func45, Try.ntmps45
  go_wp2_with fail
  go_in
  go_wp2_with fail
  refine (ones64_c r _ hr).mono ?_
  rintro e w' ⟨rfl, rfl⟩
  go_wp2
  go_ret
  exact ⟨rfl, rfl⟩
end Go.Proofs.Ytlhhafgfpmgbcaa
