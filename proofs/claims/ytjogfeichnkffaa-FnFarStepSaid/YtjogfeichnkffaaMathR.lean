
/- Plain mathematics: how far turned images, other cells, and the way back are. -/
import Derived.Test.YtjogfeichnkffaaMathQ
namespace Go.Proofs.Ytjogfeichnkffaa

theorem far_eq {m m' : Nat} {xs ys xs' ys' : List Int} (h : okB (m : Int) xs = true) (h' : okB (m' : Int) xs' = true) (p : ∀ k, Path m xs ys k → Path m' xs' ys' k) (p' : ∀ k, Path m' xs' ys' k → Path m xs ys k) :
    farV (reach m' xs') ys' = farV (reach m xs) ys := by
  cases hs : seen (reach m xs) ys with
  | true =>
    obtain ⟨e, he, rfl⟩ := seen_iff.1 hs
    obtain ⟨f, hf, e1, h1⟩ := reach_all h' (p _ (reach_path he))
    have hq := reach_path hf
    rw [e1] at hq
    have h2 := reach_least h he (p' _ hq)
    rw [farV_mem (reach_nodup m xs) he]
    rw [← e1, farV_mem (reach_nodup m' xs') hf]
    omega
  | false =>
    have hn : ∀ e ∈ reach m xs, e.1 ≠ ys := fun e he e1 => by rw [seen_iff.2 ⟨e, he, e1⟩] at hs; cases hs
    rw [farV_no hn]
    refine farV_no fun f hf e1 => ?_
    have hq := reach_path hf
    rw [e1] at hq
    obtain ⟨e, he, e2, _⟩ := reach_all h (p' _ hq)
    exact hn e he e2
theorem farW_ge {W V : Int} {xs ys : List Int} (h : 0 ≤ farW W xs V ys) : ∃ m : Nat, W = m ∧ V = m ∧ okB (m : Int) xs = true ∧ okB (m : Int) ys = true ∧ xs.length = ys.length ∧ xs.length * m ≤ 12 ∧ farW W xs V ys = farV (reach m xs) ys := by
  unfold farW at h ⊢
  split at h
  · rename_i h1
    obtain ⟨h1, h2, h3, h4, h5⟩ := h1
    have hb := okB_bd h1
    obtain ⟨m, rfl⟩ := Int.eq_ofNat_of_zero_le (show 0 ≤ W by omega)
    subst h3
    rw [if_pos ⟨h1, h2, rfl, h4, h5⟩]
    exact ⟨m, rfl, rfl, h1, h2, h4, by simpa using h5, by rw [Int.toNat_natCast]⟩
  · omega
theorem farW_at {m : Nat} {xs ys : List Int} (h : okB (m : Int) xs = true) (h' : okB (m : Int) ys = true) (hl : xs.length = ys.length) (hc : xs.length * m ≤ 12) : farW (m : Int) xs (m : Int) ys = farV (reach m xs) ys := by
  rw [farW, if_pos ⟨h, h', rfl, hl, by simpa using hc⟩, Int.toNat_natCast]
theorem farW_turn {m : Nat} {xs ys : List Int} (h : okB (m : Int) xs = true) (h' : okB (m : Int) ys = true) (hl : xs.length = ys.length) (hc : xs.length * m ≤ 12) : farW (xs.length : Int) (turnL m xs) (ys.length : Int) (turnL m ys) = farV (reach m xs) ys := by
  have h2 := turnL_ok h'
  rw [← hl] at h2 ⊢
  rw [farW_at (turnL_ok h) h2 (by rw [turnL_len, turnL_len]) (by rw [turnL_len, Nat.mul_comm]; exact hc)]
  refine far_eq h (turnL_ok h) (fun k hp => turnL_path h hp) (fun k hp => ?_)
  have := turnL_path (turnL_ok h) hp
  rw [turnL_len, turnL_back h] at this
  have e := turnL_back h'
  rw [← hl] at e
  rw [e] at this
  exact this
theorem farW_other {m : Nat} {xs ys : List Int} (h : okB (m : Int) xs = true) (h' : okB (m : Int) ys = true) (hl : xs.length = ys.length) (hc : xs.length * m ≤ 12) : farW (m : Int) (otherL m xs) (m : Int) (otherL m ys) = farV (reach m xs) ys := by
  rw [farW_at (otherL_ok h) (otherL_ok h') (by rw [otherL_len, otherL_len]; exact hl) (by rw [otherL_len]; exact hc)]
  refine far_eq h (otherL_ok h) (fun k hp => otherL_path hp) (fun k hp => ?_)
  have := otherL_path hp
  rwa [otherL_back h, otherL_back h'] at this
theorem farW_back {m : Nat} {xs ys : List Int} (h : okB (m : Int) xs = true) (h' : okB (m : Int) ys = true) (hl : xs.length = ys.length) (hc : xs.length * m ≤ 12) : farW (m : Int) ys (m : Int) xs = farV (reach m xs) ys := by
  rw [farW_at h' h hl.symm (by rw [← hl]; exact hc)]
  exact far_eq h h' (fun k hp => hp.back h) (fun k hp => hp.back h')
theorem farV_ge {m : Nat} {xs ys : List Int} (h : 0 ≤ farV (reach m xs) ys) : ∃ e ∈ reach m xs, e.1 = ys ∧ farV (reach m xs) ys = e.2 := by
  cases hs : seen (reach m xs) ys with
  | true =>
    obtain ⟨e, he, rfl⟩ := seen_iff.1 hs
    exact ⟨e, he, rfl, farV_mem (reach_nodup m xs) he⟩
  | false =>
    rw [farV_no (fun e he e1 => by rw [seen_iff.2 ⟨e, he, e1⟩] at hs; cases hs)] at h
    omega
theorem farV_bd {m : Nat} {xs ys : List Int} (hc : xs.length * m ≤ 12) : farV (reach m xs) ys ≤ 65536 := by
  rcases Int.lt_or_le (farV (reach m xs) ys) 0 with h1 | h1
  · omega
  · obtain ⟨e, he, _, h2⟩ := farV_ge h1
    rw [h2]
    have h3 := bfs_dist m xs _ e he
    have h4 : 2 ^ (xs.length * m) ≤ 2 ^ 12 := Nat.pow_le_pow_right (by omega) hc
    omega
theorem far_zero {m : Nat} {xs ys : List Int} (h : okB (m : Int) xs = true) (h0 : 0 ≤ farV (reach m xs) ys) : farV (reach m xs) ys = 0 ↔ xs = ys := by
  obtain ⟨e, he, e1, e2⟩ := farV_ge h0
  constructor
  · intro h1
    have hp := reach_path he
    rw [e1, show e.2 = 0 by omega] at hp
    cases hp; rfl
  · intro h1
    subst h1
    have := reach_least h he (n := 0) (by rw [e1]; exact Path.nil)
    omega
theorem far_one {m : Nat} {xs ys : List Int} (h : okB (m : Int) xs = true) (h0 : 0 ≤ farV (reach m xs) ys) : farV (reach m xs) ys = 1 ↔ ys ∈ nbrs m xs := by
  have hz := far_zero h h0
  obtain ⟨e, he, e1, e2⟩ := farV_ge h0
  constructor
  · intro h1
    have hp := reach_path he
    rw [e1, show e.2 = 0 + 1 by omega] at hp
    cases hp with
    | step hp hz => cases hp; exact hz
  · intro h1
    have h2 := reach_least h he (n := 0 + 1) (by rw [e1]; exact Path.step Path.nil h1)
    have h3 : ¬ farV (reach m xs) ys = 0 := fun h4 => nbr_ne h1 (hz.1 h4).symm
    omega
end Go.Proofs.Ytjogfeichnkffaa
