
/- Plain mathematics: valid images. -/
import Derived.Test.YtjogfeichnkffaaMath
namespace Go.Proofs.Ytjogfeichnkffaa

/-- ImageValid -/
def okB (W : Int) (xs : List Int) : Bool := decide (1 ≤ W) && decide (W ≤ 6) && decide (1 ≤ xs.length) && decide (xs.length ≤ 6) && allIn 0 (2 ^ W.toNat - 1) xs
theorem okB_bd {W : Int} {xs : List Int} (h : okB W xs = true) : 1 ≤ W ∧ W ≤ 6 ∧ 1 ≤ xs.length ∧ xs.length ≤ 6 := by
  simp only [okB, Bool.and_eq_true, decide_eq_true_eq] at h
  omega
theorem okB_all {W : Int} {xs : List Int} (h : okB W xs = true) : allIn 0 (2 ^ W.toNat - 1) xs = true := by
  simp only [okB, Bool.and_eq_true] at h
  exact h.2
theorem okB_no {W : Int} {xs : List Int} (h : ¬ (1 ≤ W ∧ W ≤ 6 ∧ 1 ≤ xs.length ∧ xs.length ≤ 6)) : okB W xs = false := by
  cases e : okB W xs with
  | false => rfl
  | true => exact absurd (okB_bd e) h
theorem okB_eq {W : Int} {xs : List Int} (h : 1 ≤ W ∧ W ≤ 6 ∧ 1 ≤ xs.length ∧ xs.length ≤ 6) : okB W xs = allIn 0 (2 ^ W.toNat - 1) xs := by
  obtain ⟨h1, h2, h3, h4⟩ := h
  simp [okB, h1, h2, h3, h4]
/-- a valid image's rows are the rows of a matrix of cells -/
theorem okB_rows {W : Int} {xs : List Int} (h : okB W xs = true) : ∃ m : Nat, ∃ f : Nat → Nat → Bool, W = m ∧ 1 ≤ m ∧ m ≤ 6 ∧ xs = img f xs.length m := by
  have hb := okB_bd h
  have ha := okB_all h
  obtain ⟨m, rfl⟩ := Int.eq_ofNat_of_zero_le (show 0 ≤ W by omega)
  refine ⟨m, fun i j => ((xs[i]?.getD 0).toNat).testBit j, rfl, by omega, by omega, ?_⟩
  apply List.ext_getElem
  · rw [img_len]
  · intro i h1 h2
    have hi := allIn_at ha i h1
    rw [Int.toNat_natCast] at hi
    have e : xs[i]?.getD 0 = xs[i] := by simp [List.getElem?_eq_getElem h1]
    rw [e] at hi
    have hp := pow_int (j := m) (by omega)
    have hn : (xs[i]).toNat < 2 ^ m := by
      have e2 : ((2 ^ m : Nat) : Int) = (2 : Int) ^ m := by simp
      omega
    simp only [img, List.getElem_map, List.getElem_range, List.getElem?_eq_getElem h1, Option.getD_some]
    rw [mkRow_testBit hn]
    omega
theorem okB_img {f : Nat → Nat → Bool} {h m : Nat} (h1 : 1 ≤ h) (h2 : h ≤ 6) (m1 : 1 ≤ m) (m2 : m ≤ 6) : okB m (img f h m) = true := by
  rw [okB_eq (by rw [img_len]; omega)]
  apply allIn_of
  intro k hk
  rw [img_len] at hk
  rw [img_get hk, Int.toNat_natCast]
  have := mkRow_lt (f k) m
  have e2 : ((2 ^ m : Nat) : Int) = (2 : Int) ^ m := by simp
  omega

/-- WeightsFit -/
def wFit (W : Int) (xs p q : List Int) : Bool := wOk p q && okB W xs && decide (W = wW p q) && decide (xs = wX p q)
end Go.Proofs.Ytjogfeichnkffaa
