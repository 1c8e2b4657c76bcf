/- Walks: the law's own bit. -/
import Derived.Test.YtlhhafgfpmgbcaaWc
import Derived.Test.YtlhhafgfpmgbcaaMathF
namespace Go.Proofs.Ytlhhafgfpmgbcaa
open Go.RowKit

set_option maxHeartbeats 400000 in
theorem pow2_c (a : Int) (w : World) (h0 : 0 ≤ a) (h : a ≤ 60) :
    Calls Try.prog 48 #[.int .i64 a] w fun e w' => e = .returned (.int .i64 (2 ^ a.toNat)) ∧ w = w' := by
  obtain ⟨n, rfl⟩ := Int.eq_ofNat_of_zero_le h0
  rw [Int.toNat_natCast]
  go_enter Try.func48, Try.ntmps48
  go_wp2
  go_loop [3, 4] (fun o i => ∃ k : Nat, k ≤ n ∧ i = .int .i64 k ∧ o = .int .i64 (2 ^ k)) (fun _ i => n - (intOf i).toNat)
  case atStart => exact ⟨0, Nat.zero_le _, rfl, by simp⟩
  case round =>
    obtain ⟨k, hk, rfl, rfl⟩ := hrel
    by_cases hlt : k < n
    · have hp := pow_bd (k := k) (by omega)
      have hs := Lib.hid (pow_step k)
      go_wp2
      go_round
      case rel => exact ⟨k + 1, by omega, by go_num, by rw [hs.out]⟩
      case measure => simp [intOf]; omega
    · obtain rfl : k = n := by omega
      go_wp2
      go_ret
      exact ⟨rfl, rfl⟩

set_option maxHeartbeats 400000 in
theorem bit_c (r j : Nat) (w : World) (hj : j ≤ 60) (hr : r < 9223372036854775807) :
    Calls Try.prog 28 #[.int .i64 r, .int .i64 j] w fun e w' => e = .returned (.int .i64 (bitN r j : Nat)) ∧ w = w' := by
  have hp := pow_bd (k := j) (by omega)
  have hd : (r : Int) / 2 ^ j = ((r / 2 ^ j : Nat) : Int) := by simp
  have hle : r / 2 ^ j ≤ r := Nat.div_le_self _ _
  have hB : Hid (bitN r j = r / 2 ^ j % 2) := Lib.hid rfl
  generalize r / 2 ^ j = q at hd hle hB
  go_enter Try.func28, Try.ntmps28
  go_wp2_with (go_at_call 48; refine (pow2_c _ _ (by omega) (by omega)).mono ?_; rintro e w' ⟨rfl, rfl⟩)
  go_ret
  exact ⟨ret_int (by rw [hB.out]; simp), rfl⟩
end Go.Proofs.Ytlhhafgfpmgbcaa
