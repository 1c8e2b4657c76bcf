
/- Plain: the list of steps of the reference. -/
import Derived.Test.YtjogfeichnkffaaSf
import Derived.Test.YtjogfeichnkffaaKy
namespace Go.Proofs.Ytjogfeichnkffaa

/-- the list tells for each image of wk its number, -1 elsewhere -/
def StepsIs (S : List Int) (m N : Nat) (wk : List (List Int × Nat)) : Prop :=
  S.length = N ∧ (∀ e ∈ wk, S[keyN m e.1]?.getD 0 = (e.2 : Int)) ∧ ∀ i, i < N → (∀ e ∈ wk, keyN m e.1 ≠ i) → S[i]?.getD 0 = -1
theorem StepsIs.start {m N : Nat} {xs : List Int} (hx : keyN m xs < N) : StepsIs ((List.replicate N (-1 : Int)).set (keyN m xs) 0) m N [(xs, 0)] := by
  refine ⟨by simp, fun e he => ?_, fun i hi h => ?_⟩
  · obtain rfl := List.mem_singleton.1 he
    rw [List.getElem?_set_self (by simpa using hx)]; rfl
  · have := h _ (List.mem_singleton.2 rfl)
    rw [List.getElem?_set_ne this, List.getElem?_replicate, if_pos hi]; rfl
theorem StepsIs.add {S : List Int} {m N : Nat} {wk : List (List Int × Nat)} (h : StepsIs S m N wk) {z : List Int} (d : Nat) (hz : keyN m z < N) (hn : ∀ e ∈ wk, keyN m e.1 ≠ keyN m z) : StepsIs (S.set (keyN m z) (d : Int)) m N (wk ++ [(z, d)]) := by
  refine ⟨by rw [List.length_set]; exact h.1, fun e he => ?_, fun i hi h2 => ?_⟩
  · rcases List.mem_append.1 he with he | he
    · rw [List.getElem?_set_ne (fun e2 => hn e he e2.symm)]
      exact h.2.1 e he
    · obtain rfl := List.mem_singleton.1 he
      rw [List.getElem?_set_self (by rw [h.1]; exact hz)]; rfl
  · have h3 := h2 (z, d) (by simp)
    rw [List.getElem?_set_ne h3]
    exact h.2.2 i hi (fun e he => h2 e (by simp [he]))
theorem keyN_bd {m : Nat} {xs : List Int} (h : okB (m : Int) xs = true) : keyN m xs < 2 ^ (xs.length * m) := keyN_lt (fun x hx => (okB_cells h x hx).2)
theorem seen_key {m n : Nat} {wk : List (List Int × Nat)} (hok : ∀ e ∈ wk, okB (m : Int) e.1 = true ∧ e.1.length = n) {z : List Int} (hz : okB (m : Int) z = true) (hl : z.length = n) (h : seen wk z = false) : ∀ e ∈ wk, keyN m e.1 ≠ keyN m z := by
  intro e he hk
  have := keyN_inj (by rw [(hok e he).2, hl]) (okB_cells (hok e he).1) (okB_cells hz) hk
  have h2 := seen_iff.2 ⟨e, he, this⟩
  rw [h] at h2; cases h2
theorem StepsIs.neg {S : List Int} {m n N : Nat} {wk : List (List Int × Nat)} (h : StepsIs S m N wk) (hok : ∀ e ∈ wk, okB (m : Int) e.1 = true ∧ e.1.length = n) {z : List Int} (hz : okB (m : Int) z = true) (hl : z.length = n) (hN : keyN m z < N) :
    decide (S[keyN m z]?.getD 0 < 0) = !seen wk z := by
  cases hs : seen wk z with
  | true =>
    obtain ⟨e, he, h1⟩ := seen_iff.1 hs
    have := h.2.1 e he
    rw [h1] at this
    rw [this]; simp
  | false =>
    rw [h.2.2 _ hN (seen_key hok hz hl hs)]; rfl
end Go.Proofs.Ytjogfeichnkffaa
