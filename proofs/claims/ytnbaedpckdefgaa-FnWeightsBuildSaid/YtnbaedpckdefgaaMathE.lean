
/- Plain mathematics: weights shifted, doubled; rows with equal weights. -/
import Derived.Test.YtnbaedpckdefgaaMathD
namespace Go.Proofs.Ytnbaedpckdefgaa

theorem getD_map (l : List Int) (f : Int → Int) {k : Nat} (hk : k < l.length) : (l.map f)[k]?.getD 0 = f (l[k]?.getD 0) := by
  simp [List.getElem?_eq_getElem hk]
theorem wIn_of {p : List Int} (h1 : 1 ≤ p.length) (h2 : p.length ≤ 6) (h : ∀ k, k < p.length → -99 ≤ p[k]?.getD 0 ∧ p[k]?.getD 0 ≤ 99) : wIn p = true := by
  rw [wIn_def, allIn_of h]
  simp [h1, h2]
theorem wOk_parts {p q : List Int} (h : wOk p q = true) : wIn p = true ∧ wIn q = true ∧ wSum p q = true := by
  simp only [wOk, Bool.and_eq_true] at h
  exact ⟨h.1.1, h.1.2, h.2⟩
theorem wFit_parts {W : Int} {xs p q : List Int} (h : wFit W xs p q = true) : wOk p q = true ∧ okB W xs = true ∧ W = wW p q ∧ xs = wX p q := by
  simp only [wFit, Bool.and_eq_true, decide_eq_true_eq] at h
  exact ⟨h.1.1.1, h.1.1.2, h.1.2, h.2⟩
/-- weights whose sums have the same signs fit the same images -/
theorem wFit_same {W : Int} {xs p q p' q' : List Int} (h : wFit W xs p q = true) (hp : p'.length = p.length) (hq : q'.length = q.length) (ip : wIn p' = true) (iq : wIn q' = true)
    (hs : ∀ i j, i < p.length → j < q.length → ((0 < p'[i]?.getD 0 + q'[j]?.getD 0 ↔ 0 < p[i]?.getD 0 + q[j]?.getD 0) ∧ p'[i]?.getD 0 + q'[j]?.getD 0 ≠ 0)) : wFit W xs p' q' = true := by
  obtain ⟨h1, h2, h3, h4⟩ := wFit_parts h
  have hO : wOk p' q' = true := by
    simp only [wOk, ip, iq, Bool.true_and]
    exact wSum_of (fun i j hi hj => (hs i j (by omega) (by omega)).2)
  have hX : wX p' q' = wX p q := by
    simp only [wX, hO, h1, if_true, hp, hq]
    exact img_congr (fun i hi j hj => by simp only [wF, decide_eq_decide]; exact (hs i j hi hj).1)
  have hW : wW p' q' = wW p q := by simp only [wW, hO, h1, if_true, hq]
  simp only [wFit, hO, h2, hX, hW, ← h3, ← h4, decide_true, Bool.and_self]
theorem wFit_shift {W : Int} {xs p q : List Int} (h : wFit W xs p q = true) (hp : ∀ k, k < p.length → -90 ≤ p[k]?.getD 0 ∧ p[k]?.getD 0 ≤ 90) (hq : ∀ k, k < q.length → -90 ≤ q[k]?.getD 0 ∧ q[k]?.getD 0 ≤ 90) :
    wFit W xs (p.map (fun x => x + 5)) (q.map (fun x => x - 5)) = true := by
  obtain ⟨h1, h2, h3, h4⟩ := wFit_parts h
  have hb := wOk_bd h1
  refine wFit_same h (by simp) (by simp) (wIn_of (by simp; omega) (by simp; omega) (fun k hk => ?_)) (wIn_of (by simp; omega) (by simp; omega) (fun k hk => ?_)) (fun i j hi hj => ?_)
  · rw [List.length_map] at hk; rw [getD_map _ _ hk]; have := hp k hk; omega
  · rw [List.length_map] at hk; rw [getD_map _ _ hk]; have := hq k hk; omega
  · rw [getD_map _ _ hi, getD_map _ _ hj]
    have := wSum_at (wOk_parts h1).2.2 i j hi hj
    omega
theorem wFit_twice {W : Int} {xs p q : List Int} (h : wFit W xs p q = true) (hp : ∀ k, k < p.length → -49 ≤ p[k]?.getD 0 ∧ p[k]?.getD 0 ≤ 49) (hq : ∀ k, k < q.length → -49 ≤ q[k]?.getD 0 ∧ q[k]?.getD 0 ≤ 49) :
    wFit W xs (p.map (fun x => 2 * x)) (q.map (fun x => 2 * x)) = true := by
  obtain ⟨h1, h2, h3, h4⟩ := wFit_parts h
  have hb := wOk_bd h1
  refine wFit_same h (by simp) (by simp) (wIn_of (by simp; omega) (by simp; omega) (fun k hk => ?_)) (wIn_of (by simp; omega) (by simp; omega) (fun k hk => ?_)) (fun i j hi hj => ?_)
  · rw [List.length_map] at hk; rw [getD_map _ _ hk]; have := hp k hk; omega
  · rw [List.length_map] at hk; rw [getD_map _ _ hk]; have := hq k hk; omega
  · rw [getD_map _ _ hi, getD_map _ _ hj]
    have := wSum_at (wOk_parts h1).2.2 i j hi hj
    omega
theorem map_snoc (p : List Int) (f : Int → Int) {k : Nat} (hk : k < p.length) : (p.take k).map f ++ [f (p[k]?.getD 0)] = (p.take (k + 1)).map f := by
  rw [List.take_succ_eq_append_getElem hk, List.map_append]
  simp [List.getElem?_eq_getElem hk]
end Go.Proofs.Ytnbaedpckdefgaa
