
/- Plain: far and the sums. -/
import Derived.Test.YtpoojghommfklaaKj
import Derived.Test.YtpoojghommfklaaKr
namespace Go.Proofs.Ytpoojghommfklaa

theorem sameB_iff {m : Nat} {xs ys : List Int} (hx : okB (m : Int) xs = true) (hy : okB (m : Int) ys = true) (hl : xs.length = ys.length) : sameB (m : Int) xs (m : Int) ys = true ↔ rSums (m : Int) xs = rSums (m : Int) ys ∧ cSums (m : Int) xs = cSums (m : Int) ys := by
  simp [sameB, sFit, sizeB_mk hx hy hl, hx]
theorem farW_none {W V : Int} {xs ys : List Int} (h : ¬ (sizeB W xs V ys = true ∧ xs.length * W.toNat ≤ 12)) : farW W xs V ys = -1 := by
  refine farW_no fun h1 => h ⟨?_, h1.2.2.2.2⟩
  simp [sizeB, h1.2.1, h1.2.2.1, h1.2.2.2.1]
  rw [← h1.2.2.1]; exact h1.1
/-- only images with the same sums are reached, and all of them -/
theorem far_same {m : Nat} {xs ys : List Int} (hx : okB (m : Int) xs = true) (hy : okB (m : Int) ys = true) (hl : xs.length = ys.length) (hc : xs.length * m ≤ 12) : 0 ≤ farW (m : Int) xs (m : Int) ys ↔ sameB (m : Int) xs (m : Int) ys = true := by
  rw [farW_at hx hy hl hc, sameB_iff hx hy hl]
  constructor
  · intro h
    obtain ⟨e, he, rfl, _⟩ := farV_ge h
    have := path_sums hx (reach_path he)
    exact ⟨this.1.symm, this.2.symm⟩
  · rintro ⟨h1, h2⟩
    obtain ⟨n, hp, _⟩ := way _ hx hy hl (same2_of hx hy h1 h2).2 (Nat.le_refl _)
    obtain ⟨f, hf, rfl, _⟩ := reach_all hx hp
    rw [farV_mem (reach_nodup m xs) hf]
    omega
theorem far_bound {m : Nat} {xs ys : List Int} (hx : okB (m : Int) xs = true) (hy : okB (m : Int) ys = true) (hl : xs.length = ys.length) (hc : xs.length * m ≤ 12) (h0 : 0 ≤ farW (m : Int) xs (m : Int) ys) :
    (distX xs ys : Int) ≤ 4 * farW (m : Int) xs (m : Int) ys ∧ (∀ n, Path m xs ys n → farW (m : Int) xs (m : Int) ys ≤ n) ∧ (distX xs ys = 0 ∧ farW (m : Int) xs (m : Int) ys = 0 ∨ 2 * farW (m : Int) xs (m : Int) ys + 2 ≤ distX xs ys) := by
  have hs := (sameB_iff hx hy hl).1 ((far_same hx hy hl hc).1 h0)
  rw [farW_at hx hy hl hc] at h0 ⊢
  rw [distX_eq hx hy hl]
  obtain ⟨e, he, rfl, h1⟩ := farV_ge h0
  rw [h1]
  have hp := reach_path he
  have h2 := path_dist hx hp
  refine ⟨by omega, fun n hn => by have := reach_least hx he hn; omega, ?_⟩
  obtain ⟨n, hn, h3⟩ := way _ hx hy hl (same2_of hx hy hs.1 hs.2).2 (Nat.le_refl _)
  have h4 := reach_least hx he hn
  rcases h3 with ⟨h5, rfl⟩ | h3
  · left
    refine ⟨?_, by omega⟩
    rw [← h5]
    exact dist2_self fun _ _ _ _ => rfl
  · right; omega
end Go.Proofs.Ytpoojghommfklaa
