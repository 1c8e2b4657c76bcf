/- Plain mathematics: rows with equal weights; rows with greater weights. -/
import Derived.Test.YtlhhafgfpmgbcaaMathE
namespace Go.Proofs.Ytlhhafgfpmgbcaa

theorem fit_row {W : Int} {xs p q : List Int} (h : wFit W xs p q = true) {i : Nat} (hi : i < p.length) : xs[i]?.getD 0 = (mkRow (wF p q i) q.length : Int) := by
  obtain ⟨h1, _, _, h4⟩ := wFit_parts h
  rw [h4]; exact wX_get h1 hi
theorem fit_len {W : Int} {xs p q : List Int} (h : wFit W xs p q = true) : xs.length = p.length ∧ W = q.length := by
  obtain ⟨h1, _, h3, h4⟩ := wFit_parts h
  exact ⟨by rw [h4]; exact wX_length h1, by rw [h3]; exact wW_eq h1⟩
theorem fit_same {W : Int} {xs p q : List Int} (h : wFit W xs p q = true) {i k : Nat} (hi : i < p.length) (hk : k < p.length) (e : p[i]?.getD 0 = p[k]?.getD 0) : xs[i]?.getD 0 = xs[k]?.getD 0 := by
  rw [fit_row h hi, fit_row h hk, mkRow_congr (f := wF p q i) (g := wF p q k) (fun j _ => by simp only [wF, e])]
/-- the bit as a number -/
def bitN (r j : Nat) : Nat := r / 2 ^ j % 2
theorem fit_bits {W : Int} {xs p q : List Int} (h : wFit W xs p q = true) {i k : Nat} (hi : i < p.length) (hk : k < p.length) (e : p[k]?.getD 0 < p[i]?.getD 0) (j : Nat) :
    ∃ r s : Nat, xs[k]?.getD 0 = (r : Int) ∧ xs[i]?.getD 0 = (s : Int) ∧ r < 64 ∧ s < 64 ∧ bitN r j ≤ bitN s j := by
  have hb := wOk_bd (wFit_parts h).1
  refine ⟨_, _, fit_row h hk, fit_row h hi, mkRow_lt64 _ _ hb.2.2.2, mkRow_lt64 _ _ hb.2.2.2, ?_⟩
  have h1 := Nat.testBit_eq_decide_div_mod_eq (x := mkRow (wF p q k) q.length) (i := j)
  have h2 := Nat.testBit_eq_decide_div_mod_eq (x := mkRow (wF p q i) q.length) (i := j)
  rw [testBit_mkRow] at h1 h2
  have m1 : bitN (mkRow (wF p q k) q.length) j < 2 := Nat.mod_lt _ (by omega)
  by_cases hc : bitN (mkRow (wF p q k) q.length) j = 1
  · have hd : bitN (mkRow (wF p q i) q.length) j = 1 := by
      have h3 : (decide (j < q.length) && wF p q k j) = true := by rw [h1]; simpa [bitN] using hc
      simp only [Bool.and_eq_true, decide_eq_true_eq, wF] at h3
      have h4 : (decide (j < q.length) && wF p q i j) = true := by
        simp only [Bool.and_eq_true, decide_eq_true_eq, wF]; exact ⟨h3.1, by omega⟩
      rw [h2] at h4
      simpa [bitN] using h4
    omega
  · omega
end Go.Proofs.Ytlhhafgfpmgbcaa
