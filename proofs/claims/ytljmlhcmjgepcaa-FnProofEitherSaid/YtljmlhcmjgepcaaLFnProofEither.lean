/- The law FnProofEither walked. -/
import Derived.Test.YtljmlhcmjgepcaaEx
namespace Go.Proofs.Ytljmlhcmjgepcaa
open Go.RowKit
set_option maxRecDepth 100000

theorem pVal_none {r c : List Int} (h : pOf r c = none) : pVal (pOf r c) = .tuple #[.int .i64 0, .bool false] := by rw [h]; rfl
theorem pVal_some {r c : List Int} {t : Nat} (h : pOf r c = some t) : pVal (pOf r c) = .tuple #[.int .i64 (t : Nat), .bool true] := by rw [h]; rfl

set_option maxHeartbeats 4000000 in
theorem law_ProofEither (A : Option Addr) (n c : Nat) (w : World) (hr : RdB w A n) (hb : n ≤ maxLen ∧ n ≤ c) :
    Calls Try.prog 4 #[.slice A n c] w fun e w' => e = .returned (.bool true) ∧ Below w.heap.size w w' := by
  by_cases h1 : 1048576 < n
  · go_enter Try.func4, Try.ntmps4
    go_wp2
    go_ret
    exact ⟨rfl, by (repeat (first | exact Below.refl _ _ | assumption | refine lo_alloc ?_ _ | refine lo_set ?_ (by simp; try omega) _ | refine Below.drew ?_ | refine below_drewN ?_ _ | refine lo_trans ?_ (by assumption) | refine lo_wr ?_ (by assumption) (by omega)))⟩
  go_enter Try.func4, Try.ntmps4
  go_wp2_with fail
  refine (DrawProofOf_c A n c _ hr (by omega) hb.2).mono ?_
  rintro e w1 ⟨R, n, c, Q, m, d, xs, ys, rfl, hn, hm, _, _, hB, hQ, hb1⟩
  obtain ⟨hsb, hsv⟩ : ∃ b, Hid (sV xs ys = b) := ⟨_, Lib.hid rfl⟩
  cases hsb with
  | false =>
    cases ho : pOf xs ys with
    | none =>
      have hv := pVal_none ho
      have ho1 := Lib.hid ho; clear ho
      go_wp2_with fail
      refine (impl_ProofOf_c _ _ _ _ _ _ xs ys _ hB.rd hQ.rd (by omega) (by omega)).mono ?_
      rw [hv]
      rintro e w2 ⟨rfl, hb2⟩
      have hB2 := hB.next hb2
      have hQ2 := hQ.next hb2
      go_wp2_with fail
      refine (spec_ProofOf_c _ _ _ _ _ _ xs ys _ hB2.rd hQ2.rd (by omega) (by omega)).mono ?_
      rw [hv]
      rintro e w3 ⟨rfl, hb3⟩
      have hB3 := (hB2.next hb3).rd
      have hQ3 := (hQ2.next hb3).rd
      have hL3 : Below w.heap.size w w3 := lo_trans (lo_trans hb1 hb2) hb3
      clear hb1 hb2 hb3 hB hQ hB2 hQ2
      clear hv
      cases ho : pOf ys xs with
      | none =>
        have hv := pVal_none ho
        have ho2 := Lib.hid ho; clear ho
        go_wp2_with fail
        refine (impl_ProofColumns_c _ _ _ _ _ _ xs ys _ hB3 hQ3 (by omega) (by omega)).mono ?_
        rw [hv]
        rintro e w4 ⟨rfl, hb4⟩
        have hB4 := hB3.next hb4
        have hQ4 := hQ3.next hb4
        have hL4 : Below w.heap.size w w4 := lo_trans hL3 hb4
        clear hB3 hQ3 hL3 hb4
        clear hv
        go_wp2_with fail
        refine (sumOf_any _ _ _ xs _ hB4 (by omega)).mono ?_
        rintro e w' ⟨⟨v1, rfl⟩, rfl⟩
        go_wp2_with fail
        refine (sumOf_any _ _ _ ys _ hQ4 (by omega)).mono ?_
        rintro e w' ⟨⟨v2, rfl⟩, rfl⟩
        by_cases hvv : v1 = v2
        · subst hvv
          go_wp2
          go_ret
          exact ⟨rfl, hL4⟩
        · go_wp2_with fail
          refine (SumsValid_c _ _ _ _ _ _ xs ys _ hB4 hQ4 (by omega) (by omega)).mono ?_
          rw [hsv.out]
          rintro e w' ⟨rfl, rfl⟩
          go_wp2
          go_ret
          exact ⟨rfl, hL4⟩
      | some t2 =>
        have hv := pVal_some ho
        have ho2 := Lib.hid ho; clear ho
        go_wp2_with fail
        refine (impl_ProofColumns_c _ _ _ _ _ _ xs ys _ hB3 hQ3 (by omega) (by omega)).mono ?_
        rw [hv]
        rintro e w4 ⟨rfl, hb4⟩
        have hB4 := hB3.next hb4
        have hQ4 := hQ3.next hb4
        have hL4 : Below w.heap.size w w4 := lo_trans hL3 hb4
        clear hB3 hQ3 hL3 hb4
        clear hv
        go_wp2_with fail
        refine (sumOf_any _ _ _ xs _ hB4 (by omega)).mono ?_
        rintro e w' ⟨⟨v1, rfl⟩, rfl⟩
        go_wp2_with fail
        refine (sumOf_any _ _ _ ys _ hQ4 (by omega)).mono ?_
        rintro e w' ⟨⟨v2, rfl⟩, rfl⟩
        by_cases hvv : v1 = v2
        · subst hvv
          go_wp2
          go_ret
          exact ⟨rfl, hL4⟩
        · go_wp2_with fail
          refine (SumsValid_c _ _ _ _ _ _ xs ys _ hB4 hQ4 (by omega) (by omega)).mono ?_
          rw [hsv.out]
          rintro e w' ⟨rfl, rfl⟩
          go_wp2
          go_ret
          exact ⟨rfl, hL4⟩
    | some t =>
      have hv := pVal_some ho
      have ho1 := Lib.hid ho; clear ho
      go_wp2_with fail
      refine (impl_ProofOf_c _ _ _ _ _ _ xs ys _ hB.rd hQ.rd (by omega) (by omega)).mono ?_
      rw [hv]
      rintro e w2 ⟨rfl, hb2⟩
      have hB2 := hB.next hb2
      have hQ2 := hQ.next hb2
      go_wp2_with fail
      refine (spec_ProofOf_c _ _ _ _ _ _ xs ys _ hB2.rd hQ2.rd (by omega) (by omega)).mono ?_
      rw [hv]
      rintro e w3 ⟨rfl, hb3⟩
      have hB3 := (hB2.next hb3).rd
      have hQ3 := (hQ2.next hb3).rd
      have hL3 : Below w.heap.size w w3 := lo_trans (lo_trans hb1 hb2) hb3
      clear hb1 hb2 hb3 hB hQ hB2 hQ2
      clear hv
      cases ho : pOf ys xs with
      | none =>
        have hv := pVal_none ho
        have ho2 := Lib.hid ho; clear ho
        go_wp2_with fail
        refine (impl_ProofColumns_c _ _ _ _ _ _ xs ys _ hB3 hQ3 (by omega) (by omega)).mono ?_
        rw [hv]
        rintro e w4 ⟨rfl, hb4⟩
        have hB4 := hB3.next hb4
        have hQ4 := hQ3.next hb4
        have hL4 : Below w.heap.size w w4 := lo_trans hL3 hb4
        clear hB3 hQ3 hL3 hb4
        clear hv
        go_wp2_with fail
        refine (sumOf_any _ _ _ xs _ hB4 (by omega)).mono ?_
        rintro e w' ⟨⟨v1, rfl⟩, rfl⟩
        go_wp2_with fail
        refine (sumOf_any _ _ _ ys _ hQ4 (by omega)).mono ?_
        rintro e w' ⟨⟨v2, rfl⟩, rfl⟩
        by_cases hvv : v1 = v2
        · subst hvv
          go_wp2
          go_ret
          exact ⟨rfl, hL4⟩
        · go_wp2_with fail
          refine (SumsValid_c _ _ _ _ _ _ xs ys _ hB4 hQ4 (by omega) (by omega)).mono ?_
          rw [hsv.out]
          rintro e w' ⟨rfl, rfl⟩
          go_wp2
          go_ret
          exact ⟨rfl, hL4⟩
      | some t2 =>
        have hv := pVal_some ho
        have ho2 := Lib.hid ho; clear ho
        go_wp2_with fail
        refine (impl_ProofColumns_c _ _ _ _ _ _ xs ys _ hB3 hQ3 (by omega) (by omega)).mono ?_
        rw [hv]
        rintro e w4 ⟨rfl, hb4⟩
        have hB4 := hB3.next hb4
        have hQ4 := hQ3.next hb4
        have hL4 : Below w.heap.size w w4 := lo_trans hL3 hb4
        clear hB3 hQ3 hL3 hb4
        clear hv
        go_wp2_with fail
        refine (sumOf_any _ _ _ xs _ hB4 (by omega)).mono ?_
        rintro e w' ⟨⟨v1, rfl⟩, rfl⟩
        go_wp2_with fail
        refine (sumOf_any _ _ _ ys _ hQ4 (by omega)).mono ?_
        rintro e w' ⟨⟨v2, rfl⟩, rfl⟩
        by_cases hvv : v1 = v2
        · subst hvv
          go_wp2
          go_ret
          exact ⟨rfl, hL4⟩
        · go_wp2_with fail
          refine (SumsValid_c _ _ _ _ _ _ xs ys _ hB4 hQ4 (by omega) (by omega)).mono ?_
          rw [hsv.out]
          rintro e w' ⟨rfl, rfl⟩
          go_wp2
          go_ret
          exact ⟨rfl, hL4⟩
  | true =>
    have hx6 := Lib.hid (show ∀ x ∈ xs, 0 ≤ x ∧ x ≤ 6 from fun x hx => by have h := sV_out hsv.out; have := h.2.2.2.2.1 x hx; omega)
    have hy6 := Lib.hid (show ∀ x ∈ ys, 0 ≤ x ∧ x ≤ 6 from fun x hx => by have h := sV_out hsv.out; have := h.2.2.2.2.2 x hx; omega)
    cases ho : pOf xs ys with
    | none =>
      have hv := pVal_none ho
      have ho1 := Lib.hid ho; clear ho
      go_wp2_with fail
      refine (impl_ProofOf_c _ _ _ _ _ _ xs ys _ hB.rd hQ.rd (by omega) (by omega)).mono ?_
      rw [hv]
      rintro e w2 ⟨rfl, hb2⟩
      have hB2 := hB.next hb2
      have hQ2 := hQ.next hb2
      go_wp2_with fail
      refine (spec_ProofOf_c _ _ _ _ _ _ xs ys _ hB2.rd hQ2.rd (by omega) (by omega)).mono ?_
      rw [hv]
      rintro e w3 ⟨rfl, hb3⟩
      have hB3 := (hB2.next hb3).rd
      have hQ3 := (hQ2.next hb3).rd
      have hL3 : Below w.heap.size w w3 := lo_trans (lo_trans hb1 hb2) hb3
      clear hb1 hb2 hb3 hB hQ hB2 hQ2
      clear hv
      cases ho : pOf ys xs with
      | none =>
        have hv := pVal_none ho
        have ho2 := Lib.hid ho; clear ho
        go_wp2_with fail
        refine (impl_ProofColumns_c _ _ _ _ _ _ xs ys _ hB3 hQ3 (by omega) (by omega)).mono ?_
        rw [hv]
        rintro e w4 ⟨rfl, hb4⟩
        have hB4 := hB3.next hb4
        have hQ4 := hQ3.next hb4
        have hL4 : Below w.heap.size w w4 := lo_trans hL3 hb4
        clear hB3 hQ3 hL3 hb4
        clear hv
        go_wp2_with fail
        refine (sumOf_c _ _ _ 6 xs _ hB4 (by omega) (by omega) (by omega) hx6.out).mono ?_
        rintro e w' ⟨rfl, rfl⟩
        go_wp2_with fail
        refine (sumOf_c _ _ _ 6 ys _ hQ4 (by omega) (by omega) (by omega) hy6.out).mono ?_
        rintro e w' ⟨rfl, rfl⟩
        by_cases hvv : xs.sum = ys.sum
        · rw [hvv]
          go_wp2
          go_ret
          exact ⟨rfl, hL4⟩
        · exact absurd (pOf_either hsv.out hvv) (by rintro (⟨_, h⟩ | ⟨_, h⟩) <;> first | (rw [ho1.out] at h; cases h) | (rw [ho2.out] at h; cases h))
      | some t2 =>
        have hv := pVal_some ho
        have ho2 := Lib.hid ho; clear ho
        go_wp2_with fail
        refine (impl_ProofColumns_c _ _ _ _ _ _ xs ys _ hB3 hQ3 (by omega) (by omega)).mono ?_
        rw [hv]
        rintro e w4 ⟨rfl, hb4⟩
        have hB4 := hB3.next hb4
        have hQ4 := hQ3.next hb4
        have hL4 : Below w.heap.size w w4 := lo_trans hL3 hb4
        clear hB3 hQ3 hL3 hb4
        clear hv
        go_wp2_with fail
        refine (sumOf_c _ _ _ 6 xs _ hB4 (by omega) (by omega) (by omega) hx6.out).mono ?_
        rintro e w' ⟨rfl, rfl⟩
        go_wp2_with fail
        refine (sumOf_c _ _ _ 6 ys _ hQ4 (by omega) (by omega) (by omega) hy6.out).mono ?_
        rintro e w' ⟨rfl, rfl⟩
        by_cases hvv : xs.sum = ys.sum
        · rw [hvv]
          go_wp2
          go_ret
          exact ⟨rfl, hL4⟩
        · generalize xs.sum = v1 at hvv ⊢
          generalize ys.sum = v2 at hvv ⊢
          go_wp2_with fail
          refine (SumsValid_c _ _ _ _ _ _ xs ys _ hB4 hQ4 (by omega) (by omega)).mono ?_
          rw [hsv.out]
          rintro e w' ⟨rfl, rfl⟩
          go_wp2
          go_ret
          exact ⟨rfl, hL4⟩
    | some t =>
      have hv := pVal_some ho
      have ho1 := Lib.hid ho; clear ho
      go_wp2_with fail
      refine (impl_ProofOf_c _ _ _ _ _ _ xs ys _ hB.rd hQ.rd (by omega) (by omega)).mono ?_
      rw [hv]
      rintro e w2 ⟨rfl, hb2⟩
      have hB2 := hB.next hb2
      have hQ2 := hQ.next hb2
      go_wp2_with fail
      refine (spec_ProofOf_c _ _ _ _ _ _ xs ys _ hB2.rd hQ2.rd (by omega) (by omega)).mono ?_
      rw [hv]
      rintro e w3 ⟨rfl, hb3⟩
      have hB3 := (hB2.next hb3).rd
      have hQ3 := (hQ2.next hb3).rd
      have hL3 : Below w.heap.size w w3 := lo_trans (lo_trans hb1 hb2) hb3
      clear hb1 hb2 hb3 hB hQ hB2 hQ2
      clear hv
      cases ho : pOf ys xs with
      | none =>
        have hv := pVal_none ho
        have ho2 := Lib.hid ho; clear ho
        go_wp2_with fail
        refine (impl_ProofColumns_c _ _ _ _ _ _ xs ys _ hB3 hQ3 (by omega) (by omega)).mono ?_
        rw [hv]
        rintro e w4 ⟨rfl, hb4⟩
        have hB4 := hB3.next hb4
        have hQ4 := hQ3.next hb4
        have hL4 : Below w.heap.size w w4 := lo_trans hL3 hb4
        clear hB3 hQ3 hL3 hb4
        clear hv
        go_wp2_with fail
        refine (sumOf_c _ _ _ 6 xs _ hB4 (by omega) (by omega) (by omega) hx6.out).mono ?_
        rintro e w' ⟨rfl, rfl⟩
        go_wp2_with fail
        refine (sumOf_c _ _ _ 6 ys _ hQ4 (by omega) (by omega) (by omega) hy6.out).mono ?_
        rintro e w' ⟨rfl, rfl⟩
        by_cases hvv : xs.sum = ys.sum
        · rw [hvv]
          go_wp2
          go_ret
          exact ⟨rfl, hL4⟩
        · generalize xs.sum = v1 at hvv ⊢
          generalize ys.sum = v2 at hvv ⊢
          go_wp2_with fail
          refine (SumsValid_c _ _ _ _ _ _ xs ys _ hB4 hQ4 (by omega) (by omega)).mono ?_
          rw [hsv.out]
          rintro e w' ⟨rfl, rfl⟩
          go_wp2
          go_ret
          exact ⟨rfl, hL4⟩
      | some t2 =>
        have hv := pVal_some ho
        have ho2 := Lib.hid ho; clear ho
        go_wp2_with fail
        refine (impl_ProofColumns_c _ _ _ _ _ _ xs ys _ hB3 hQ3 (by omega) (by omega)).mono ?_
        rw [hv]
        rintro e w4 ⟨rfl, hb4⟩
        have hB4 := hB3.next hb4
        have hQ4 := hQ3.next hb4
        have hL4 : Below w.heap.size w w4 := lo_trans hL3 hb4
        clear hB3 hQ3 hL3 hb4
        clear hv
        go_wp2_with fail
        refine (sumOf_c _ _ _ 6 xs _ hB4 (by omega) (by omega) (by omega) hx6.out).mono ?_
        rintro e w' ⟨rfl, rfl⟩
        go_wp2_with fail
        refine (sumOf_c _ _ _ 6 ys _ hQ4 (by omega) (by omega) (by omega) hy6.out).mono ?_
        rintro e w' ⟨rfl, rfl⟩
        by_cases hvv : xs.sum = ys.sum
        · rw [hvv]
          go_wp2
          go_ret
          exact ⟨rfl, hL4⟩
        · generalize xs.sum = v1 at hvv ⊢
          generalize ys.sum = v2 at hvv ⊢
          go_wp2_with fail
          refine (SumsValid_c _ _ _ _ _ _ xs ys _ hB4 hQ4 (by omega) (by omega)).mono ?_
          rw [hsv.out]
          rintro e w' ⟨rfl, rfl⟩
          go_wp2
          go_ret
          exact ⟨rfl, hL4⟩
end Go.Proofs.Ytljmlhcmjgepcaa
