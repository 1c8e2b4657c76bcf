/- Plain facts and walks that the law's proof uses; each says its own conditions. -/
import Derived.Test.YtpeiolimdglmhaaGreatDoorZ07
import Derived.OpenShut
-- What a slice of integers that came in reads as.
namespace Go.Proofs.YtpeiolimdglmhaaGreatDoor
open Go.RowKit

theorem Rd.of_row {w : World} {a : Option Addr} {len cap : Nat} {zs : List Int}
    (h : (a = none ∧ len = 0 ∧ cap = 0 ∧ zs = []) ∨ ∃ x, a = some x ∧ len ≤ cap ∧ cap ≤ maxLen ∧ zs.length = cap ∧ (∀ i, i < zs.length → w.cell? (x.add i) = some (.int .i64 (zs.getD i 0))) ∧ ∀ n ∈ zs, (Lit.int .i64 n).wf = true) :
    Rd w a len (zs.take len) ∧ len ≤ maxLen := by
  rcases h with ⟨rfl, rfl, rfl, rfl⟩ | ⟨x, rfl, hl, hm, hz, hc, _⟩
  · exact ⟨Rd.nil_, Nat.zero_le _⟩
  · refine ⟨⟨by rw [List.length_take]; omega, fun hn => ?_⟩, by omega⟩
    obtain ⟨b, off, rfl, hcc⟩ := ints_at hc (by omega)
    refine ⟨b, off, rfl, World.block_lt_of_cell? w _ (hcc 0 (by omega)), fun k x hx => ?_⟩
    have hk : k < len := by
      rcases Nat.lt_or_ge k len with h | h
      · exact h
      · rw [List.getElem?_eq_none (by rw [List.length_take]; omega)] at hx; cases hx
    rw [hcc k (by omega)]
    rw [List.getElem?_take, if_pos hk] at hx
    rw [List.getD_eq_getElem?_getD, hx]
    rfl

theorem RdB.of_row {w : World} {a : Option Addr} {len cap : Nat} {zs : List Int}
    (h : (a = none ∧ len = 0 ∧ cap = 0 ∧ zs = []) ∨ ∃ x, a = some x ∧ len ≤ cap ∧ cap ≤ maxLen ∧ zs.length = cap ∧ (∀ i, i < zs.length → w.cell? (x.add i) = some (.int .u8 (zs.getD i 0))) ∧ ∀ n ∈ zs, (Lit.int .u8 n).wf = true) :
    RdB w a len ∧ len ≤ maxLen ∧ len ≤ cap := by
  rcases h with ⟨rfl, rfl, rfl, rfl⟩ | ⟨x, rfl, hl, hm, hz, hc, hw⟩
  · exact ⟨fun h => absurd h (by omega), Nat.zero_le _, Nat.le_refl _⟩
  · refine ⟨fun hn => ?_, by omega, hl⟩
    obtain ⟨b, off, rfl, hcc⟩ := ints_at hc (by omega)
    refine ⟨b, off, rfl, World.block_lt_of_cell? w _ (hcc 0 (by omega)), fun k hk => ?_⟩
    have hkl : k < zs.length := by omega
    have hwk := bounds_u8 (hw (zs.getD k 0) (by rw [List.getD_eq_getElem?_getD, List.getElem?_eq_getElem hkl]; simp))
    exact ⟨zs.getD k 0, hwk.1, hwk.2, hcc k hkl⟩
end Go.Proofs.YtpeiolimdglmhaaGreatDoor
