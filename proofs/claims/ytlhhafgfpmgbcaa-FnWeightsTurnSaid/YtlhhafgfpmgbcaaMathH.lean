/- Plain mathematics: weights turned, weights of the other cells. -/
import Derived.Test.YtlhhafgfpmgbcaaMathF
import Derived.Test.YtlhhafgfpmgbcaaCl
namespace Go.Proofs.Ytlhhafgfpmgbcaa

theorem cellF_img {f : Nat → Nat → Bool} {h m i j : Nat} (hi : i < h) (hj : j < m) : cellF (img f h m) i j = f i j := by
  simp [cellF, img_get hi, testBit_mkRow, hj]
theorem wSum_swap {p q : List Int} (h : wSum p q = true) : wSum q p = true :=
  wSum_of (fun i j hi hj => by have := wSum_at h j i hj hi; omega)
theorem fit_turn {W : Int} {xs p q : List Int} (h : wFit W xs p q = true) : wFit (turnW W xs) (turnX W xs) q p = true := by
  obtain ⟨h1, h2, h3, h4⟩ := wFit_parts h
  obtain ⟨i1, i2, i3⟩ := wOk_parts h1
  have hl := fit_len h
  have hO : wOk q p = true := by simp [wOk, i1, i2, wSum_swap i3]
  have e1 : turnW W xs = wW q p := by rw [turnW, if_pos h2, wW, if_pos hO, hl.1]
  have e2 : turnX W xs = wX q p := by
    rw [turnX, if_pos h2, wX, if_pos hO, hl.1, hl.2, Int.toNat_natCast]
    refine img_congr (fun c hc t ht => ?_)
    have e : xs = img (wF p q) p.length q.length := by rw [h4]; simp [wX, h1]
    rw [e, cellF_img ht hc]
    simp only [wF, Int.add_comm]
  rw [e1, e2]
  exact wFit_self hO
theorem getD_neg (l : List Int) {k : Nat} (hk : k < l.length) : (l.map (fun x => -x))[k]?.getD 0 = -(l[k]?.getD 0) := getD_map l _ hk
theorem fit_other {W : Int} {xs p q : List Int} (h : wFit W xs p q = true) : wFit (otherW W xs) (otherX W xs) (p.map (fun x => -x)) (q.map (fun x => -x)) = true := by
  obtain ⟨h1, h2, h3, h4⟩ := wFit_parts h
  obtain ⟨i1, i2, i3⟩ := wOk_parts h1
  have hl := fit_len h
  have hb := wOk_bd h1
  have j1 : wIn (p.map (fun x => -x)) = true := wIn_of (by simp; omega) (by simp; omega) (fun k hk => by
    rw [List.length_map] at hk; rw [getD_neg _ hk]; have := wIn_at i1 k hk; omega)
  have j2 : wIn (q.map (fun x => -x)) = true := wIn_of (by simp; omega) (by simp; omega) (fun k hk => by
    rw [List.length_map] at hk; rw [getD_neg _ hk]; have := wIn_at i2 k hk; omega)
  have j3 : wSum (p.map (fun x => -x)) (q.map (fun x => -x)) = true := wSum_of (fun i j hi hj => by
    rw [List.length_map] at hi hj
    rw [getD_neg _ hi, getD_neg _ hj]
    have := wSum_at i3 i j hi hj; omega)
  have hO : wOk (p.map (fun x => -x)) (q.map (fun x => -x)) = true := by simp [wOk, j1, j2, j3]
  have e1 : otherW W xs = wW (p.map (fun x => -x)) (q.map (fun x => -x)) := by rw [otherW, if_pos h2, wW, if_pos hO, hl.2, List.length_map]
  have e2 : otherX W xs = wX (p.map (fun x => -x)) (q.map (fun x => -x)) := by
    rw [otherX, if_pos h2, wX, if_pos hO, hl.1, hl.2, Int.toNat_natCast, List.length_map, List.length_map]
    refine img_congr (fun i hi j hj => ?_)
    have e : xs = img (wF p q) p.length q.length := by rw [h4]; simp [wX, h1]
    rw [e, cellF_img hi hj]
    simp only [wF, getD_neg _ hi, getD_neg _ hj]
    have := wSum_at i3 i j hi hj
    rw [← decide_not, decide_eq_decide]
    omega
  rw [e1, e2]
  exact wFit_self hO
end Go.Proofs.Ytlhhafgfpmgbcaa
