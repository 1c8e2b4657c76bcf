
/- Walks: the program's sums of rows and columns. -/
import Derived.Test.YtjogfeichnkffaaOn
import Derived.Test.YtjogfeichnkffaaWg
import Derived.RegionTactic
namespace Go.Proofs.Ytjogfeichnkffaa
open Go.RowKit

theorem rsum_step (xs : List Int) (n k : Nat) (hx : xs.length = n) (hk : k < n) : ((rsum xs).take k ++ List.replicate (n - k) 0).set k (pop (xs[k]?.getD 0).toNat : Nat) = (rsum xs).take (k + 1) ++ List.replicate (n - (k + 1)) 0 := by
  have h := copy_step (rsum xs) n k (by simp [rsum, hx]) hk
  have e : (rsum xs)[k]?.getD 0 = (pop (xs[k]?.getD 0).toNat : Nat) := by simp [rsum, List.getElem?_eq_getElem (show k < xs.length by omega)]
  rw [e] at h
  exact h
theorem okB_at {W : Int} {xs : List Int} (h : okB W xs = true) {k : Nat} (hk : k < xs.length) : ∃ r : Nat, xs[k]?.getD 0 = (r : Int) ∧ r < 64 := by
  have h1 := allIn_at (okB_all h) k hk
  have hb := okB_bd h
  obtain ⟨m, rfl⟩ := Int.eq_ofNat_of_zero_le (show 0 ≤ W by omega)
  have hp := pow_int (j := m) (by omega)
  rw [Int.toNat_natCast] at h1
  exact ⟨(xs[k]?.getD 0).toNat, by omega, by omega⟩

theorem and_bit (r j : Nat) (hr : r < 1073741824) : bits .and .i64 ((r : Int) / 2 ^ j) 1 = if r.testBit j then 1 else 0 := by
  have hd : (r : Int) / 2 ^ j = ((r / 2 ^ j : Nat) : Int) := by simp
  have hl : r / 2 ^ j ≤ r := Nat.div_le_self _ _
  rw [hd, show (1 : Int) = ((1 : Nat) : Int) from rfl, i64_and_nat _ _ (by omega) (by omega), Nat.and_one_is_mod, Nat.testBit_eq_decide_div_mod_eq]
  have : r / 2 ^ j % 2 < 2 := Nat.mod_lt _ (by omega)
  by_cases h : r / 2 ^ j % 2 = 1
  · simp [h]
  · have h0 : r / 2 ^ j % 2 = 0 := by omega
    simp [h0]
theorem cst_val (xs : List Int) (k j r : Nat) (hl : xs.length ≤ 6) (hr : r < 64) (h : xs[k]?.getD 0 = (r : Int)) :
    wrap64 ((ccnt (xs.take k) j : Int) + bits .and .i64 ((r : Int) / 2 ^ j) 1) = (ccnt (xs.take k) j : Int) + (if (xs[k]?.getD 0).toNat.testBit j then 1 else 0) := by
  have h1 := ccnt_le (xs.take k) j
  have h2 : (xs.take k).length ≤ 6 := by rw [List.length_take]; omega
  rw [and_bit r j (by omega), h, Int.toNat_natCast]
  split <;> exact IntWalk.wrap64_in _ (by omega)

end Go.Proofs.Ytjogfeichnkffaa
