
/- Walks: sums in range; valid sums; the total of a list. -/
import Derived.Test.YtbhpiefpmagkbaaKc
namespace Go.Proofs.Ytbhpiefpmagkbaa
open Go.RowKit

/-- 1 to 6 numbers from 0 to hi -/
def sIn (hi : Int) (xs : List Int) : Bool := decide (1 ≤ xs.length) && decide (xs.length ≤ 6) && allIn 0 hi xs
theorem sIn_out {hi : Int} {xs : List Int} (h : sIn hi xs = true) : 1 ≤ xs.length ∧ xs.length ≤ 6 ∧ allIn 0 hi xs = true := by
  simp only [sIn, Bool.and_eq_true, decide_eq_true_eq] at h
  exact ⟨h.1.1, h.1.2, h.2⟩
theorem sIn_no {hi : Int} {xs : List Int} (h : ¬ (1 ≤ xs.length ∧ xs.length ≤ 6 ∧ allIn 0 hi xs = true)) : sIn hi xs = false := by
  cases e : sIn hi xs with
  | false => rfl
  | true => exact absurd (sIn_out e) h
theorem sIn_yes {hi : Int} {xs : List Int} (h1 : 1 ≤ xs.length) (h2 : xs.length ≤ 6) (h3 : allIn 0 hi xs = true) : sIn hi xs = true := by simp [sIn, h1, h2, h3]

/-- SumsValid -/
def sV (rows cols : List Int) : Bool := sIn (cols.length : Int) rows && sIn (rows.length : Int) cols
theorem sum_snoc (xs : List Int) {k : Nat} (hk : k < xs.length) : (xs.take (k + 1)).sum = (xs.take k).sum + xs[k]?.getD 0 := by
  rw [List.take_succ_eq_append_getElem hk, List.sum_append]
  simp [List.getElem?_eq_getElem hk]
theorem sum_bd {M : Int} : ∀ {xs : List Int}, (∀ x ∈ xs, 0 ≤ x ∧ x ≤ M) → 0 ≤ xs.sum ∧ xs.sum ≤ xs.length * M
  | [], _ => by simp
  | x :: xs, h => by
    have h1 := sum_bd (xs := xs) (fun y hy => h y (List.mem_cons_of_mem _ hy))
    have h2 := h x (List.mem_cons_self ..)
    have e : ((x :: xs).length : Int) * M = xs.length * M + M := by rw [List.length_cons]; push_cast; rw [Int.add_mul]; omega
    rw [List.sum_cons, e]
    omega
theorem sum_take_bd {M : Int} {xs : List Int} (h : ∀ x ∈ xs, 0 ≤ x ∧ x ≤ M) (hM : M ≤ 1000000) (hM0 : 0 ≤ M) (hl : xs.length ≤ 1000000) (k : Nat) : 0 ≤ (xs.take k).sum ∧ (xs.take k).sum ≤ 1000000000000 := by
  have h1 := sum_bd (M := M) (xs := xs.take k) (fun x hx => h x (List.mem_of_mem_take hx))
  have h2 : (xs.take k).length ≤ 1000000 := by rw [List.length_take]; omega
  have h3 : ((xs.take k).length : Int) * M ≤ 1000000 * 1000000 := Int.mul_le_mul (by omega) hM hM0 (by omega)
  omega
theorem mem_at {xs : List Int} {k : Nat} (hk : k < xs.length) : xs[k]?.getD 0 ∈ xs := by
  simp only [List.getElem?_eq_getElem hk, Option.getD_some]; exact List.getElem_mem hk

end Go.Proofs.Ytbhpiefpmagkbaa
