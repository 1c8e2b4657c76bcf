
/- Plain facts: digits as a script's words are read back; a script of one line. -/
import Derived.Test.YtpeiolimdglmhaaGreatDoorZ40
namespace Go.Proofs.YtpeiolimdglmhaaGreatDoor
open Go.RowKit
set_option maxRecDepth 100000

theorem dig_byte {q : Nat} (h : q ≤ 9) : (UInt8.ofNat (48 + q)).toNat = 48 + q := by
  exact UInt8.toNat_ofNat_of_lt' (show 48 + q < 256 by omega)
theorem dig_isDig {q : Nat} (h : q ≤ 9) : isDig (UInt8.ofNat (48 + q)) = true ∧ digV (UInt8.ofNat (48 + q)) = (q : Int) := by
  have e := dig_byte h
  constructor
  · rw [isDig, Bool.and_eq_true, decide_eq_true_eq, decide_eq_true_eq, UInt8.le_iff_toNat_le, UInt8.le_iff_toNat_le, e]
    constructor
    · show 48 ≤ _; omega
    · show _ ≤ 57; omega
  · rw [digV, e]; omega
theorem dgs_digS {xs : List Int} (hl : xs.length ≤ 6) (h : ∀ x ∈ xs, 0 ≤ x ∧ x ≤ 9) : dgs (digS xs) = xs := by
  rw [dgs, if_pos]
  · rw [digS, List.map_map]
    have : ∀ x ∈ xs, (digV ∘ fun x : Int => UInt8.ofNat (48 + x.toNat)) x = x := fun x hx => by
      have hb := h x hx
      rw [Function.comp, (dig_isDig (q := x.toNat) (by omega)).2]
      omega
    rw [List.map_congr_left this, List.map_id']
  · rw [Bool.and_eq_true, decide_eq_true_eq, digS_len]
    refine ⟨hl, List.all_eq_true.2 fun c hc => ?_⟩
    obtain ⟨x, hx, rfl⟩ := List.mem_map.1 hc
    have hb := h x hx
    exact (dig_isDig (q := x.toNat) (by omega)).1
theorem dgt_digS {x : Int} (h : 0 ≤ x ∧ x ≤ 9) : dgt (digS [x]) = x := by
  have := dig_isDig (q := x.toNat) (by omega)
  show (if isDig (UInt8.ofNat (48 + x.toNat)) then digV (UInt8.ofNat (48 + x.toNat)) else -1) = x
  rw [if_pos this.1, this.2]
  omega
theorem digS_no {c : UInt8} (hc : c.toNat < 48) {xs : List Int} (h : ∀ x ∈ xs, 0 ≤ x ∧ x ≤ 9) : c ∉ digS xs := by
  intro hm
  obtain ⟨x, hx, e⟩ := List.mem_map.1 hm
  have hb := h x hx
  have := dig_byte (q := x.toNat) (by omega)
  rw [← e] at hc
  omega
theorem exec_one {l : Bs} (hl : (10 : UInt8) ∉ l) (hn : l.length ≤ 399) : execT (l ++ [10]) = (stepS (0, []) (pcs 32 l)).2 ++ cellsT (stepS (0, []) (pcs 32 l)).1 := by
  have := exec_add Full.nil hl (by simp; omega)
  simpa [linesOf, pcs, runS, lineS] using this
theorem proof_line {xs ys : List Int} (h : sV xs ys = true) :
    execT (kProof ++ [32] ++ digS xs ++ [32] ++ digS ys ++ [10]) = (match pOf xs ys with | some t => digS [(t : Int)] ++ [10] | none => [110, 111, 10]) ++ [99, 101, 108, 108, 115, 32, 48, 10] := by
  obtain ⟨h1, h2, h3, h4, h5, h6⟩ := sV_out h
  have hx : ∀ x ∈ xs, 0 ≤ x ∧ x ≤ 9 := fun x hx => by have := h5 x hx; omega
  have hy : ∀ x ∈ ys, 0 ≤ x ∧ x ≤ 9 := fun x hx => by have := h6 x hx; omega
  have n1 : (10 : UInt8) ∉ kProof ++ [32] ++ digS xs ++ [32] ++ digS ys := by
    have a1 := digS_no (c := 10) (by decide) hx
    have a2 := digS_no (c := 10) (by decide) hy
    simp only [List.mem_append, not_or]
    exact ⟨⟨⟨⟨by decide, by decide⟩, a1⟩, by decide⟩, a2⟩
  have e : pcs 32 (kProof ++ [32] ++ digS xs ++ [32] ++ digS ys) = [kProof, digS xs, digS ys] := by
    have := pcs_cat 32 kProof (digS xs ++ 32 :: digS ys)
    rw [pcs_cat 32 (digS xs) (digS ys), pcs_none (digS_no (c := 32) (by decide) hx), pcs_none (digS_no (c := 32) (by decide) hy), pcs_none (show (32 : UInt8) ∉ kProof by decide)] at this
    simpa using this
  rw [exec_one n1 (by simp [digS_len, kProof]; omega), e, step_Proof, dgs_digS (by omega) hx, dgs_digS (by omega) hy]
  have hc : cellsT (0, []) = [99, 101, 108, 108, 115, 32, 48, 10] := by decide
  cases hp : pOf xs ys with
  | none => simp only [Option.map_none, askO]; rw [hc]; rfl
  | some t =>
    have ht : t < 7 := by
      have := List.mem_of_find?_eq_some hp
      simpa using this
    simp only [Option.map_some, askO]
    rw [hc, dec2_one (by omega)]
    rfl
end Go.Proofs.YtpeiolimdglmhaaGreatDoor
