/- The law FnProofTotals walked. -/
import Derived.Test.YtljmlhcmjgepcaaBv
namespace Go.Proofs.Ytljmlhcmjgepcaa
open Go.RowKit
set_option maxRecDepth 100000

theorem pVal_none {r c : List Int} (h : pOf r c = none) : pVal (pOf r c) = .tuple #[.int .i64 0, .bool false] := by rw [h]; rfl
theorem pVal_some {r c : List Int} {t : Nat} (h : pOf r c = some t) : pVal (pOf r c) = .tuple #[.int .i64 (t : Nat), .bool true] := by rw [h]; rfl
theorem pOf_inv {r c : List Int} (h : sV r c = false) : pOf r c = none := by
  cases e : pOf r c with
  | none => rfl
  | some t =>
    have := (pOk_iff.1 (pOf_some e).1).1
    rw [h] at this; cases this

set_option maxHeartbeats 4000000 in
theorem law_ProofTotals (A : Option Addr) (n c : Nat) (w : World) (hr : RdB w A n) (hb : n ≤ maxLen ∧ n ≤ c) :
    Calls Try.prog 8 #[.slice A n c] w fun e w' => e = .returned (.bool true) ∧ Below w.heap.size w w' := by
  by_cases h1 : 1048576 < n
  · go_enter Try.func8, Try.ntmps8
    go_wp2
    go_ret
    exact ⟨rfl, by (repeat (first | exact Below.refl _ _ | assumption | refine lo_alloc ?_ _ | refine lo_set ?_ (by simp; try omega) _ | refine Below.drew ?_ | refine below_drewN ?_ _ | refine lo_trans ?_ (by assumption) | refine lo_wr ?_ (by assumption) (by omega)))⟩
  go_enter Try.func8, Try.ntmps8
  go_wp2_with fail
  refine (DrawProofOf_c A n c _ hr (by omega) hb.2).mono ?_
  rintro e w1 ⟨R, n, c, Q, m, d, xs, ys, rfl, hn, hm, _, _, hB, hQ, hb1⟩
  obtain ⟨hsb, hsv⟩ : ∃ b, Hid (sV xs ys = b) := ⟨_, Lib.hid rfl⟩
  cases hsb with
  | false =>
    have hv := pVal_none (pOf_inv hsv.out)
    go_wp2_with fail
    refine (impl_ProofOf_c _ _ _ _ _ _ xs ys _ hB.rd hQ.rd (by omega) (by omega)).mono ?_
    rw [hv]
    rintro e w2 ⟨rfl, hb2⟩
    have hB2 := hB.next hb2
    have hQ2 := hQ.next hb2
    go_wp2_with fail
    refine (spec_ProofOf_c _ _ _ _ _ _ xs ys _ hB2.rd hQ2.rd (by omega) (by omega)).mono ?_
    rw [hv]
    rintro e w3 ⟨rfl, hb3⟩
    have hB3 := (hB2.next hb3).rd
    have hQ3 := (hQ2.next hb3).rd
    have hL3 : Below w.heap.size w w3 := lo_trans (lo_trans hb1 hb2) hb3
    clear hb1 hb2 hb3 hB hQ hB2 hQ2 hv
    go_wp2_with fail
    refine (sumOf_any _ _ _ xs _ hB3 (by omega)).mono ?_
    rintro e w' ⟨⟨v1, rfl⟩, rfl⟩
    go_wp2_with fail
    refine (sumOf_any _ _ _ ys _ hQ3 (by omega)).mono ?_
    rintro e w' ⟨⟨v2, rfl⟩, rfl⟩
    by_cases hvv : v1 = v2
    · subst hvv
      go_wp2_with fail
      refine (SumsValid_c _ _ _ _ _ _ xs ys _ hB3 hQ3 (by omega) (by omega)).mono ?_
      rw [hsv.out]
      rintro e w' ⟨rfl, rfl⟩
      go_wp2
      go_ret
      exact ⟨rfl, hL3⟩
    · go_wp2
      go_ret
      exact ⟨rfl, hL3⟩
  | true =>
    have hx6 := Lib.hid (show ∀ x ∈ xs, 0 ≤ x ∧ x ≤ 6 from fun x hx => by have h := sV_out hsv.out; have := h.2.2.2.2.1 x hx; omega)
    have hy6 := Lib.hid (show ∀ x ∈ ys, 0 ≤ x ∧ x ≤ 6 from fun x hx => by have h := sV_out hsv.out; have := h.2.2.2.2.2 x hx; omega)
    cases ho : pOf xs ys with
    | none =>
      have hv := pVal_none ho
      have ho1 := Lib.hid ho; clear ho
      go_wp2_with fail
      refine (impl_ProofOf_c _ _ _ _ _ _ xs ys _ hB.rd hQ.rd (by omega) (by omega)).mono ?_
      rw [hv]
      rintro e w2 ⟨rfl, hb2⟩
      have hB2 := hB.next hb2
      have hQ2 := hQ.next hb2
      go_wp2_with fail
      refine (spec_ProofOf_c _ _ _ _ _ _ xs ys _ hB2.rd hQ2.rd (by omega) (by omega)).mono ?_
      rw [hv]
      rintro e w3 ⟨rfl, hb3⟩
      have hB3 := (hB2.next hb3).rd
      have hQ3 := (hQ2.next hb3).rd
      have hL3 : Below w.heap.size w w3 := lo_trans (lo_trans hb1 hb2) hb3
      clear hb1 hb2 hb3 hB hQ hB2 hQ2 hv
      go_wp2_with fail
      refine (sumOf_c _ _ _ 6 xs _ hB3 (by omega) (by omega) (by omega) hx6.out).mono ?_
      rintro e w' ⟨rfl, rfl⟩
      go_wp2_with fail
      refine (sumOf_c _ _ _ 6 ys _ hQ3 (by omega) (by omega) (by omega) hy6.out).mono ?_
      rintro e w' ⟨rfl, rfl⟩
      by_cases hvv : xs.sum = ys.sum
      case neg =>
        generalize xs.sum = v1 at hvv ⊢
        generalize ys.sum = v2 at hvv ⊢
        go_wp2
        go_ret
        exact ⟨rfl, hL3⟩
      case pos =>
        have ho2 : pOf ys xs = none := by
          cases e : pOf ys xs with
          | none => rfl
          | some t =>
            obtain ⟨k, hk⟩ := dual_pOf (r := ys) (c := xs) (by rw [sV_swap]; exact hsv.out) hvv.symm e
            rw [ho1.out] at hk; cases hk
        have hcb := Lib.hid (consB_iff.2 ⟨hsv.out, hvv, ho2⟩)
        have hv2 := pVal_none ho2
        clear ho2
        rw [hvv]
        clear hvv
        generalize ys.sum = v2
        go_wp2_with fail
        refine (SumsValid_c _ _ _ _ _ _ xs ys _ hB3 hQ3 (by omega) (by omega)).mono ?_
        rw [hsv.out]
        rintro e w' ⟨rfl, rfl⟩
        go_wp2_with fail
        refine (BuildImage_c _ _ _ _ _ _ xs ys _ hB3 hQ3 (by omega) (by omega)).mono ?_
        rw [hcb.out]
        rintro e w4 ⟨W, I, r, k, rfl, hb4⟩
        have hL4 := lo_trans hL3 hb4
        have hb5 := lo_alloc hb4 (.cells #[.int .i64 W, .slice I r k] 36)
        have hB5 := hB3.next hb5
        have hQ5 := hQ3.next hb5
        have hL5 := lo_alloc hL4 (.cells #[.int .i64 W, .slice I r k] 36)
        clear hb4 hb5 hL4
        go_wp2_with fail
        refine (impl_ProofColumns_c _ _ _ _ _ _ xs ys _ hB5 hQ5 (by omega) (by omega)).mono ?_
        rw [hv2]
        rintro e w6 ⟨rfl, hb6⟩
        clear hv2
        go_wp2
        go_ret
        exact ⟨rfl, lo_trans hL5 hb6⟩
    | some t =>
      have hv := pVal_some ho
      have ho1 := Lib.hid ho; clear ho
      go_wp2_with fail
      refine (impl_ProofOf_c _ _ _ _ _ _ xs ys _ hB.rd hQ.rd (by omega) (by omega)).mono ?_
      rw [hv]
      rintro e w2 ⟨rfl, hb2⟩
      have hB2 := hB.next hb2
      have hQ2 := hQ.next hb2
      go_wp2_with fail
      refine (spec_ProofOf_c _ _ _ _ _ _ xs ys _ hB2.rd hQ2.rd (by omega) (by omega)).mono ?_
      rw [hv]
      rintro e w3 ⟨rfl, hb3⟩
      have hB3 := (hB2.next hb3).rd
      have hQ3 := (hQ2.next hb3).rd
      have hL3 : Below w.heap.size w w3 := lo_trans (lo_trans hb1 hb2) hb3
      clear hb1 hb2 hb3 hB hQ hB2 hQ2 hv
      go_wp2_with fail
      refine (sumOf_c _ _ _ 6 xs _ hB3 (by omega) (by omega) (by omega) hx6.out).mono ?_
      rintro e w' ⟨rfl, rfl⟩
      go_wp2_with fail
      refine (sumOf_c _ _ _ 6 ys _ hQ3 (by omega) (by omega) (by omega) hy6.out).mono ?_
      rintro e w' ⟨rfl, rfl⟩
      by_cases hvv : xs.sum = ys.sum
      case neg =>
        generalize xs.sum = v1 at hvv ⊢
        generalize ys.sum = v2 at hvv ⊢
        go_wp2_with fail
        refine (SumsValid_c _ _ _ _ _ _ xs ys _ hB3 hQ3 (by omega) (by omega)).mono ?_
        rw [hsv.out]
        rintro e w' ⟨rfl, rfl⟩
        go_wp2
        go_ret
        exact ⟨rfl, hL3⟩
      case pos =>
        obtain ⟨t2, ho2⟩ := dual_pOf hsv.out hvv ho1.out
        have hcb := Lib.hid (consB_no ho1.out)
        have hv2 := pVal_some ho2
        clear ho2
        rw [hvv]
        clear hvv
        generalize ys.sum = v2
        go_wp2_with fail
        refine (SumsValid_c _ _ _ _ _ _ xs ys _ hB3 hQ3 (by omega) (by omega)).mono ?_
        rw [hsv.out]
        rintro e w' ⟨rfl, rfl⟩
        go_wp2_with fail
        refine (BuildImage_c _ _ _ _ _ _ xs ys _ hB3 hQ3 (by omega) (by omega)).mono ?_
        rw [hcb.out]
        rintro e w4 ⟨W, I, r, k, rfl, hb4⟩
        have hL4 := lo_trans hL3 hb4
        have hb5 := lo_alloc hb4 (.cells #[.int .i64 W, .slice I r k] 36)
        have hB5 := hB3.next hb5
        have hQ5 := hQ3.next hb5
        have hL5 := lo_alloc hL4 (.cells #[.int .i64 W, .slice I r k] 36)
        clear hb4 hb5 hL4
        go_wp2_with fail
        refine (impl_ProofColumns_c _ _ _ _ _ _ xs ys _ hB5 hQ5 (by omega) (by omega)).mono ?_
        rw [hv2]
        rintro e w6 ⟨rfl, hb6⟩
        clear hv2
        go_wp2
        go_ret
        exact ⟨rfl, lo_trans hL5 hb6⟩
end Go.Proofs.Ytljmlhcmjgepcaa
