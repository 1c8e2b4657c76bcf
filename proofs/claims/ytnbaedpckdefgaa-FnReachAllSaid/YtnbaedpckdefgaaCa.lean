
/- Walks: the nested image is built; how many images have given row sums. -/
import Derived.Test.YtnbaedpckdefgaaSv
import Derived.Test.YtnbaedpckdefgaaKf
import Derived.Test.YtnbaedpckdefgaaSu
namespace Go.Proofs.Ytnbaedpckdefgaa
open Go.RowKit
set_option maxRecDepth 100000

theorem allIn_nat {hi : Int} {xs : List Int} (h : allIn 0 hi xs = true) {k : Nat} (hk : k < xs.length) : ∃ q : Nat, xs[k]?.getD 0 = (q : Int) ∧ (q : Int) ≤ hi := by
  have h1 := allIn_at h k hk
  exact ⟨(xs[k]?.getD 0).toNat, by omega, by omega⟩

def prodN : Nat → (Nat → Nat) → Nat
  | 0, _ => 1
  | n + 1, F => prodN n F * F n
theorem prodN_le {c : Nat} {F : Nat → Nat} (h : ∀ i, F i ≤ c) : ∀ n, prodN n F ≤ c ^ n
  | 0 => by simp [prodN]
  | n + 1 => by
    simp only [prodN, Nat.pow_succ]
    exact Nat.mul_le_mul (prodN_le h n) (h n)
/-- how many of the first k rows have r set cells -/
def rowCnt (r : Int) (k : Nat) : Nat := (List.range k).countP (fun x => decide ((pop x : Int) = r))
theorem rowCnt_succ (r : Int) (k : Nat) : rowCnt r (k + 1) = rowCnt r k + (if (pop k : Int) = r then 1 else 0) := by
  simp [rowCnt, List.range_succ, List.countP_append, List.countP_singleton]
theorem rowCnt_le (r : Int) (k : Nat) : rowCnt r k ≤ k := by
  have h : rowCnt r k ≤ (List.range k).length := List.countP_le_length
  simpa using h
/-- CountAll -/
def cAll (m : Nat) (xs : List Int) (k : Nat) : Nat := prodN k (fun i => rowCnt (xs[i]?.getD 0) (2 ^ m))
theorem cAll_le {m : Nat} (hm : m ≤ 6) (xs : List Int) {k : Nat} (hk : k ≤ 6) : cAll m xs k ≤ 68719476736 := by
  have h1 : cAll m xs k ≤ 64 ^ k := prodN_le (fun i => Nat.le_trans (rowCnt_le _ _) (pow_le64 hm)) k
  have h2 : 64 ^ k ≤ 64 ^ 6 := Nat.pow_le_pow_right (by omega) hk
  omega

end Go.Proofs.Ytnbaedpckdefgaa
