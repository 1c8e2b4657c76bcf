
/- Plain: how many neighbors, how many rows they have. -/
import Derived.Test.YtjogfeichnkffaaNb
import Derived.Test.YtjogfeichnkffaaMathO
namespace Go.Proofs.Ytjogfeichnkffaa

theorem nbrsW_len (W : Int) (xs : List Int) : (nbrsW W xs).length < 1600 := by
  unfold nbrsW
  cases h : okB W xs with
  | false => simp
  | true =>
    obtain ⟨m, rfl⟩ := Int.eq_ofNat_of_zero_le (show 0 ≤ W by have := okB_bd h; omega)
    simpa [nbrs] using swList_len h
theorem nbrsW_row (W : Int) (xs : List Int) : ∀ y ∈ nbrsW W xs, y.length ≤ 6 := by
  intro y hy
  unfold nbrsW at hy
  cases h : okB W xs with
  | false => rw [h] at hy; simp at hy
  | true =>
    rw [h] at hy
    have hb := okB_bd h
    simp only [if_true, nbrs, List.mem_map] at hy
    obtain ⟨s, _, rfl⟩ := hy
    rw [swDo_len]; omega
theorem Els.rows {es : List El} {W : Int} {ys : List (List Int)} (h : Els es W ys) {n : Nat} (hy : ∀ y ∈ ys, y.length ≤ n) : ∀ e ∈ es, e.xs.length ≤ n := by
  intro e he
  exact hy _ (by rw [← h.1]; exact List.mem_map_of_mem he)
theorem nbrsW_ok {W : Int} {xs ys : List Int} (h : ys ∈ nbrsW W xs) : okB W xs = true := by
  cases hk : okB W xs with
  | true => rfl
  | false => simp [nbrsW, hk] at h
theorem nbrsW_back {W : Int} {xs ys : List Int} (h : ys ∈ nbrsW W xs) : xs ∈ nbrsW W ys := by
  have hk := nbrsW_ok h
  obtain ⟨m, rfl⟩ := Int.eq_ofNat_of_zero_le (show 0 ≤ W by have := okB_bd hk; omega)
  rw [nbrsW, hk, if_pos rfl, Int.toNat_natCast] at h
  have h2 := (nbrs_ok hk h).1
  rw [nbrsW, h2, if_pos rfl, Int.toNat_natCast]
  exact nbrs_back hk h
end Go.Proofs.Ytjogfeichnkffaa
