/- The law FnProofOf walked. -/
import Derived.Test.YtiepnobcokadaaaSe
namespace Go.Proofs.Ytiepnobcokadaaa
open Go.RowKit
set_option maxRecDepth 100000

theorem pVal_none {r c : List Int} (h : pOf r c = none) : pVal (pOf r c) = .tuple #[.int .i64 0, .bool false] := by rw [h]; rfl
theorem pVal_some {r c : List Int} {t : Nat} (h : pOf r c = some t) : pVal (pOf r c) = .tuple #[.int .i64 (t : Nat), .bool true] := by rw [h]; rfl

set_option maxHeartbeats 4000000 in
theorem law_ProofOf (A : Option Addr) (n c : Nat) (w : World) (hr : RdB w A n) (hb : n ≤ maxLen ∧ n ≤ c) :
    Calls Try.prog 7 #[.slice A n c] w fun e w' => e = .returned (.bool true) ∧ Below w.heap.size w w' := by
  by_cases h1 : 1048576 < n
  · go_enter Try.func7, Try.ntmps7
    go_wp2
    go_ret
    exact ⟨rfl, by (repeat (first | exact Below.refl _ _ | assumption | refine lo_alloc ?_ _ | refine lo_set ?_ (by simp; try omega) _ | refine Below.drew ?_ | refine below_drewN ?_ _ | refine lo_trans ?_ (by assumption) | refine lo_wr ?_ (by assumption) (by omega)))⟩
  go_enter Try.func7, Try.ntmps7
  go_wp2_with fail
  refine (DrawProofOf_c A n c _ hr (by omega) hb.2).mono ?_
  rintro e w1 ⟨R, n, c, Q, m, d, xs, ys, rfl, hn, hm, hB, hQ, hb1⟩
  cases ho : pOf xs ys with
  | none =>
    have hv := pVal_none ho
    go_wp2_with fail
    refine (impl_ProofOf_c _ _ _ _ _ _ xs ys _ hB.rd hQ.rd (by omega) (by omega)).mono ?_
    rw [hv]
    rintro e w2 ⟨rfl, hb2⟩
    go_wp2_with fail
    refine (spec_ProofOf_c _ _ _ _ _ _ xs ys _ (hB.next hb2).rd (hQ.next hb2).rd (by omega) (by omega)).mono ?_
    rw [hv]
    rintro e w3 ⟨rfl, hb3⟩
    go_wp2
    go_ret
    exact ⟨rfl, by (repeat (first | exact Below.refl _ _ | assumption | refine lo_alloc ?_ _ | refine lo_set ?_ (by simp; try omega) _ | refine Below.drew ?_ | refine below_drewN ?_ _ | refine lo_trans ?_ (by assumption) | refine lo_wr ?_ (by assumption) (by omega)))⟩
  | some t =>
    have hv := pVal_some ho
    obtain ⟨hp, hl⟩ := pOf_some ho
    have hl' := Lib.hid hl; clear hl
    have hp0 := pOk_pos hp
    obtain ⟨_, _, hp1, _⟩ := pOk_iff.1 hp
    rw [hB.1] at hp1
    go_wp2_with fail
    refine (impl_ProofOf_c _ _ _ _ _ _ xs ys _ hB.rd hQ.rd (by omega) (by omega)).mono ?_
    rw [hv]
    rintro e w2 ⟨rfl, hb2⟩
    have hB2 := hB.next hb2
    have hQ2 := hQ.next hb2
    go_wp2_with fail
    refine (spec_ProofOf_c _ _ _ _ _ _ xs ys _ hB2.rd hQ2.rd (by omega) (by omega)).mono ?_
    rw [hv]
    rintro e w3 ⟨rfl, hb3⟩
    have hB3 := (hB2.next hb3).rd
    have hQ3 := (hQ2.next hb3).rd
    have hL3 : Below w.heap.size w w3 := lo_trans (lo_trans hb1 hb2) hb3
    clear hb1 hb2 hb3 hB hQ hB2 hQ2 hv ho
    go_wp2
    go_loopw [9] (fun i wr => ∃ k : Nat, k ≤ t ∧ i = .int .i64 k ∧ Below w3.heap.size w3 wr) (fun i _ => t - (intOf i).toNat)
    case atStart => exact ⟨0, Nat.zero_le _, rfl, Below.refl _ _⟩
    case round =>
      obtain ⟨k, hk, rfl, hbl⟩ := hrel
      by_cases hlt : k < t
      · go_wp2_with fail
        refine (impl_ProofOk_c _ _ _ _ _ _ (k : Nat) xs ys _ (hB3.next hbl) (hQ3.next hbl) (by omega) (by omega)).mono ?_
        rw [hl'.out k hlt]
        rintro e w4 ⟨rfl, hb4⟩
        go_wp2
        go_roundw
        case rel => exact ⟨k + 1, by omega, by go_num, lo_trans hbl hb4⟩
        case measure => simp [intOf]; omega
      · obtain rfl : k = t := by omega
        have hp' := Lib.hid hp; clear hp
        go_wp2_with fail
        refine (impl_ProofOk_c _ _ _ _ _ _ (k : Nat) xs ys _ (hB3.next hbl) (hQ3.next hbl) (by omega) (by omega)).mono ?_
        rw [hp'.out]
        rintro e w4 ⟨rfl, hb4⟩
        go_wp2
        go_ret
        exact ⟨rfl, lo_trans (lo_trans hL3 hbl) hb4⟩
end Go.Proofs.Ytiepnobcokadaaa
