/- The law FnProofColumns walked. -/
import Derived.Test.YtljmlhcmjgepcaaSc
namespace Go.Proofs.Ytljmlhcmjgepcaa
open Go.RowKit
set_option maxRecDepth 100000

theorem pVal_none {r c : List Int} (h : pOf r c = none) : pVal (pOf r c) = .tuple #[.int .i64 0, .bool false] := by rw [h]; rfl
theorem pVal_some {r c : List Int} {t : Nat} (h : pOf r c = some t) : pVal (pOf r c) = .tuple #[.int .i64 (t : Nat), .bool true] := by rw [h]; rfl

set_option maxHeartbeats 4000000 in
theorem law_ProofColumns (A : Option Addr) (n c : Nat) (w : World) (hr : RdB w A n) (hb : n ≤ maxLen ∧ n ≤ c) :
    Calls Try.prog 6 #[.slice A n c] w fun e w' => e = .returned (.bool true) ∧ Below w.heap.size w w' := by
  by_cases h1 : 1048576 < n
  · go_enter Try.func6, Try.ntmps6
    go_wp2
    go_ret
    exact ⟨rfl, by (repeat (first | exact Below.refl _ _ | assumption | refine lo_alloc ?_ _ | refine lo_set ?_ (by simp; try omega) _ | refine Below.drew ?_ | refine below_drewN ?_ _ | refine lo_trans ?_ (by assumption) | refine lo_wr ?_ (by assumption) (by omega)))⟩
  go_enter Try.func6, Try.ntmps6
  go_wp2_with fail
  refine (DrawProofColumns_c A n c _ hr (by omega) hb.2).mono ?_
  rintro e w1 ⟨R, n, c, Q, m, d, xs, ys, rfl, hn, hm, _, _, hB, hQ, hb1⟩
  cases ho : pOf ys xs with
  | none =>
    have hv := pVal_none ho
    clear ho
    go_wp2_with fail
    refine (impl_ProofColumns_c _ _ _ _ _ _ xs ys _ hB.rd hQ.rd (by omega) (by omega)).mono ?_
    rw [hv]
    rintro e w2 ⟨rfl, hb2⟩
    go_wp2_with fail
    refine (spec_ProofColumns_c _ _ _ _ _ _ xs ys _ (hB.next hb2).rd (hQ.next hb2).rd (by omega) (by omega)).mono ?_
    rw [hv]
    rintro e w3 ⟨rfl, hb3⟩
    go_wp2
    go_ret
    exact ⟨rfl, by (repeat (first | exact Below.refl _ _ | assumption | refine lo_alloc ?_ _ | refine lo_set ?_ (by simp; try omega) _ | refine Below.drew ?_ | refine below_drewN ?_ _ | refine lo_trans ?_ (by assumption) | refine lo_wr ?_ (by assumption) (by omega)))⟩
  | some t =>
    have hv := pVal_some ho
    have hp' := Lib.hid (pOf_some ho).1
    have hc' := Lib.hid (consB_no' ho)
    clear ho
    go_wp2_with fail
    refine (impl_ProofColumns_c _ _ _ _ _ _ xs ys _ hB.rd hQ.rd (by omega) (by omega)).mono ?_
    rw [hv]
    rintro e w2 ⟨rfl, hb2⟩
    have hB2 := hB.next hb2
    have hQ2 := hQ.next hb2
    go_wp2_with fail
    refine (spec_ProofColumns_c _ _ _ _ _ _ xs ys _ hB2.rd hQ2.rd (by omega) (by omega)).mono ?_
    rw [hv]
    rintro e w3 ⟨rfl, hb3⟩
    have hB3 := (hB2.next hb3).rd
    have hQ3 := (hQ2.next hb3).rd
    have hL3 : Below w.heap.size w w3 := lo_trans (lo_trans hb1 hb2) hb3
    clear hb1 hb2 hb3 hB hQ hB2 hQ2
    go_wp2_with fail
    refine (impl_ProofOf_c _ _ _ _ _ _ ys xs _ hQ3 hB3 (by omega) (by omega)).mono ?_
    rw [hv]
    rintro e w4 ⟨rfl, hb4⟩
    have hB4 := hB3.next hb4
    have hQ4 := hQ3.next hb4
    have hL4 := lo_trans hL3 hb4
    clear hB3 hQ3 hL3 hb4 hv
    go_wp2_with fail
    refine (impl_ProofOk_c _ _ _ _ _ _ (t : Nat) ys xs _ hQ4 hB4 (by omega) (by omega)).mono ?_
    rw [hp'.out]
    rintro e w5 ⟨rfl, hb5⟩
    have hB5 := hB4.next hb5
    have hQ5 := hQ4.next hb5
    have hL5 := lo_trans hL4 hb5
    clear hB4 hQ4 hL4 hb5
    go_wp2_with fail
    refine (SumsConsistent_c _ _ _ _ _ _ xs ys _ hB5 hQ5 (by omega) (by omega)).mono ?_
    rw [hc'.out]
    rintro e w6 ⟨rfl, hb6⟩
    go_wp2
    go_ret
    exact ⟨rfl, lo_trans hL5 hb6⟩
end Go.Proofs.Ytljmlhcmjgepcaa
