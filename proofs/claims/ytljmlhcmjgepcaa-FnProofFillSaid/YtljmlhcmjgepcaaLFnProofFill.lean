/- The law FnProofFill walked. -/
import Derived.Test.YtljmlhcmjgepcaaEx
namespace Go.Proofs.Ytljmlhcmjgepcaa
open Go.RowKit
set_option maxRecDepth 100000

theorem pVal_none {r c : List Int} (h : pOf r c = none) : pVal (pOf r c) = .tuple #[.int .i64 0, .bool false] := by rw [h]; rfl
theorem pVal_some {r c : List Int} {t : Nat} (h : pOf r c = some t) : pVal (pOf r c) = .tuple #[.int .i64 (t : Nat), .bool true] := by rw [h]; rfl

set_option maxHeartbeats 4000000 in
theorem law_ProofFill (A : Option Addr) (n c : Nat) (w : World) (hr : RdB w A n) (hb : n ≤ maxLen ∧ n ≤ c) :
    Calls Try.prog 5 #[.slice A n c] w fun e w' => e = .returned (.bool true) ∧ Below w.heap.size w w' := by
  by_cases h1 : 1048576 < n
  · go_enter Try.func5, Try.ntmps5
    go_wp2
    go_ret
    exact ⟨rfl, by (repeat (first | exact Below.refl _ _ | assumption | refine lo_alloc ?_ _ | refine lo_set ?_ (by simp; try omega) _ | refine Below.drew ?_ | refine below_drewN ?_ _ | refine lo_trans ?_ (by assumption) | refine lo_wr ?_ (by assumption) (by omega)))⟩
  go_enter Try.func5, Try.ntmps5
  go_wp2_with fail
  refine (DrawProofOk_c A n c _ hr (by omega) hb.2).mono ?_
  rintro e w1 ⟨R, n, c, Q, m, d, xs, ys, t, rfl, hn, hm, _, _, hB, hQ, hb1⟩
  cases hp : pOk xs ys t with
  | false =>
    go_wp2_with fail
    refine (impl_ProofOk_c _ _ _ _ _ _ t xs ys _ hB.rd hQ.rd (by omega) (by omega)).mono ?_
    rw [hp]
    rintro e w2 ⟨rfl, hb2⟩
    go_wp2_with fail
    refine (spec_ProofOk_c _ _ _ _ _ _ t xs ys _ (hB.next hb2).rd (hQ.next hb2).rd (by omega) (by omega)).mono ?_
    rw [hp]
    rintro e w3 ⟨rfl, hb3⟩
    go_wp2
    go_ret
    exact ⟨rfl, by (repeat (first | exact Below.refl _ _ | assumption | refine lo_alloc ?_ _ | refine lo_set ?_ (by simp; try omega) _ | refine Below.drew ?_ | refine below_drewN ?_ _ | refine lo_trans ?_ (by assumption) | refine lo_wr ?_ (by assumption) (by omega)))⟩
  | true =>
    have hp' := Lib.hid hp; clear hp
    obtain ⟨hv, h0, h3, h4⟩ := pOk_iff.1 hp'.out
    obtain ⟨q1, q2, q3, q4, q5, q6⟩ := sV_out hv
    have hx6 : ∀ x ∈ xs, 0 ≤ x ∧ x ≤ 6 := fun x hx => by have := q5 x hx; omega
    have hy6 : ∀ x ∈ ys, 0 ≤ x ∧ x ≤ 6 := fun x hx => by have := q6 x hx; omega
    have hx6' := Lib.hid hx6
    have hv' := Lib.hid hv
    have hs0 : 0 ≤ xs.sum := (sum_bd hx6).1
    have hlow : 0 ≤ fM xs ys (n + 1) := fM_nonneg (fun x hx => (hx6 x hx).1) (fun x hx => (hy6 x hx).1) hs0 _
    have hup : fM xs ys (n + 1) < xs.sum := by
      have := fM_le xs ys (k := n + 1) (s := t.toNat) (by rw [hB.1] at h3; omega)
      omega
    clear hx6 hy6 hv hs0 q5 q6 h4 q1 q2 q3 q4
    go_wp2_with fail
    refine (impl_ProofOk_c _ _ _ _ _ _ t xs ys _ hB.rd hQ.rd (by omega) (by omega)).mono ?_
    rw [hp'.out]
    rintro e w2 ⟨rfl, hb2⟩
    have hB2 := hB.next hb2
    have hQ2 := hQ.next hb2
    go_wp2_with fail
    refine (spec_ProofOk_c _ _ _ _ _ _ t xs ys _ hB2.rd hQ2.rd (by omega) (by omega)).mono ?_
    rw [hp'.out]
    rintro e w3 ⟨rfl, hb3⟩
    have hB3 := (hB2.next hb3).rd
    have hQ3 := (hQ2.next hb3).rd
    have hL3 : Below w.heap.size w w3 := lo_trans (lo_trans hb1 hb2) hb3
    clear hb1 hb2 hb3 hB hQ hB2 hQ2
    go_wp2_with fail
    refine (FillMost_c _ _ _ _ _ _ xs ys _ hB3 hQ3 hv'.out).mono ?_
    rintro e w4 ⟨rfl, hb4⟩
    have hB4 := hB3.next hb4
    go_wp2_with fail
    refine (sumOf_c _ _ _ 6 xs _ hB4 (by omega) (by omega) (by omega) hx6'.out).mono ?_
    rintro e w' ⟨rfl, rfl⟩
    generalize fM xs ys (n + 1) = z at hlow hup ⊢
    generalize xs.sum = S at hup ⊢
    go_wp2
    go_ret
    exact ⟨rfl, lo_trans hL3 hb4⟩
end Go.Proofs.Ytljmlhcmjgepcaa
