/- The law FnWeightsOf walked. -/
import Derived.Test.YtbhpiefpmagkbaaWo
import Derived.Test.YtbhpiefpmagkbaaDrU
import Derived.Test.YtbhpiefpmagkbaaMathWu
namespace Go.Proofs.Ytbhpiefpmagkbaa
open Go.RowKit

set_option maxHeartbeats 4000000 in
theorem law_WeightsOf (A : Option Addr) (n c : Nat) (w : World) (hr : RdB w A n) (hb : n ≤ maxLen ∧ n ≤ c) :
    Calls Try.prog 7 #[.slice A n c] w fun e w' => e = .returned (.bool true) ∧ Below w.heap.size w w' := by
  by_cases h1 : 1048576 < n
  · go_enter Try.func7, Try.ntmps7
    go_wp2
    go_ret
    exact ⟨rfl, by (repeat (first | exact Below.refl _ _ | assumption | refine lo_alloc ?_ _ | refine lo_set ?_ (by simp; try omega) _ | refine Below.drew ?_ | refine below_drewN ?_ _ | refine lo_trans ?_ (by assumption) | refine lo_wr ?_ (by assumption) (by omega)))⟩
  go_enter Try.func7, Try.ntmps7
  go_wp2_with fail
  refine (DrawWeightsOf_c A n c _ hr (by omega) hb.2).mono ?_
  rintro e w1 ⟨W, X, x, x', xs, rfl, hx6, hX, hb1⟩
  have hs1 := hb1.size
  have hkA := Blk.new w1 28 #[.int .i64 W, .slice X x x']
  have hbA := lo_alloc (Below.refl w1.heap.size w1) (.cells #[.int .i64 W, .slice X x x'] 28)
  have hbAz : w1.heap.size < (w1.alloc (.cells #[.int .i64 W, .slice X x x'] 28)).heap.size := by simp
  go_wp2_with fail
  generalize w1.alloc (.cells #[.int .i64 W, .slice X x x'] 28) = wA at hkA hbA hbAz  ⊢
  refine (impl_WeightsOf_c _ _ _ _ xs _ (hX.next (by (repeat (first | exact Below.refl _ _ | assumption | refine lo_alloc ?_ _ | refine lo_set ?_ (by simp; try omega) _ | refine Below.drew ?_ | refine below_drewN ?_ _ | refine lo_trans ?_ (by assumption) | refine lo_wr ?_ (by assumption) (by omega))))).rd (by omega)).mono ?_
  rintro e w2 ⟨P, p, p', Q, q, q', rfl, hb2, hP, hQ, hne⟩
  have hp6 : p ≤ 6 := by rw [← hP.1]; exact ofP_len
  have hq6 : q ≤ 6 := by rw [← hQ.1]; exact ofQ_len
  have hs2 := hb2.size
  have kA2 : Blk w2 w1.heap.size _ _ := hkA.next hb2
  have a0 := kA2.cell 0
  have a1 := kA2.cell 1
  go_wp2_with fail
  refine (spec_WeightsOf_c _ _ _ _ xs _ (hX.next (by (repeat (first | exact Below.refl _ _ | assumption | refine lo_alloc ?_ _ | refine lo_set ?_ (by simp; try omega) _ | refine Below.drew ?_ | refine below_drewN ?_ _ | refine lo_trans ?_ (by assumption) | refine lo_wr ?_ (by assumption) (by omega))))).rd (by omega)).mono ?_
  rintro e w3 ⟨P2, p2, p2', Q2, q2, q2', rfl, hb3, hP2, hQ2, hne2⟩
  have hs3 := hb3.size
  clear a0 a1
  have hP3 : Own w3 _ P p _ := hP.next (by (repeat (first | exact Below.refl _ _ | assumption | refine lo_alloc ?_ _ | refine lo_set ?_ (by simp; try omega) _ | refine Below.drew ?_ | refine below_drewN ?_ _ | refine lo_trans ?_ (by assumption) | refine lo_wr ?_ (by assumption) (by omega))))
  have hQ3 : Own w3 _ Q q _ := hQ.next (by (repeat (first | exact Below.refl _ _ | assumption | refine lo_alloc ?_ _ | refine lo_set ?_ (by simp; try omega) _ | refine Below.drew ?_ | refine below_drewN ?_ _ | refine lo_trans ?_ (by assumption) | refine lo_wr ?_ (by assumption) (by omega))))
  cases hu : uniqB W xs with
  | false =>
    go_wp2_with fail
    refine (sameInts_c _ _ _ _ _ _ (ofP W xs) (ofP W xs) _ hP3.rd hP2.rd (by omega)).mono ?_
    rw [decide_eq_true rfl]
    rintro e w4 ⟨rfl, hb4⟩
    go_wp2_with fail
    refine (sameInts_c _ _ _ _ _ _ (ofQ W xs) (ofQ W xs) _ (hQ3.next hb4).rd (hQ2.next hb4).rd (by omega)).mono ?_
    rw [decide_eq_true rfl]
    rintro e w5 ⟨rfl, hb5⟩
    go_wp2_with fail
    refine (sameInts_c _ _ _ _ _ _ (ofP W xs) (ofP W xs) _ (hP3.next (by (repeat (first | exact Below.refl _ _ | assumption | refine lo_alloc ?_ _ | refine lo_set ?_ (by simp; try omega) _ | refine Below.drew ?_ | refine below_drewN ?_ _ | refine lo_trans ?_ (by assumption) | refine lo_wr ?_ (by assumption) (by omega))))).rd (hP2.next (by (repeat (first | exact Below.refl _ _ | assumption | refine lo_alloc ?_ _ | refine lo_set ?_ (by simp; try omega) _ | refine Below.drew ?_ | refine below_drewN ?_ _ | refine lo_trans ?_ (by assumption) | refine lo_wr ?_ (by assumption) (by omega))))).rd (by omega)).mono ?_
    rw [decide_eq_true rfl]
    rintro e w6 ⟨rfl, hb6⟩
    go_wp2_with fail
    refine (sameInts_c _ _ _ _ _ _ (ofQ W xs) (ofQ W xs) _ (hQ3.next (by (repeat (first | exact Below.refl _ _ | assumption | refine lo_alloc ?_ _ | refine lo_set ?_ (by simp; try omega) _ | refine Below.drew ?_ | refine below_drewN ?_ _ | refine lo_trans ?_ (by assumption) | refine lo_wr ?_ (by assumption) (by omega))))).rd (hQ2.next (by (repeat (first | exact Below.refl _ _ | assumption | refine lo_alloc ?_ _ | refine lo_set ?_ (by simp; try omega) _ | refine Below.drew ?_ | refine below_drewN ?_ _ | refine lo_trans ?_ (by assumption) | refine lo_wr ?_ (by assumption) (by omega))))).rd (by omega)).mono ?_
    rw [decide_eq_true rfl]
    rintro e w7 ⟨rfl, hb7⟩
    go_wp2
    go_ret
    exact ⟨rfl, by (repeat (first | exact Below.refl _ _ | assumption | refine lo_alloc ?_ _ | refine lo_set ?_ (by simp; try omega) _ | refine Below.drew ?_ | refine below_drewN ?_ _ | refine lo_trans ?_ (by assumption) | refine lo_wr ?_ (by assumption) (by omega)))⟩
  | true =>
    have hu' := Lib.hid hu
    have hF := Lib.hid (uniq_fit hu)
    have hk' := Lib.hid (uniqB_ok hu)
    clear hu
    go_wp2_with fail
    refine (sameInts_c _ _ _ _ _ _ (ofP W xs) (ofP W xs) _ hP3.rd hP2.rd (by omega)).mono ?_
    rw [decide_eq_true rfl]
    rintro e w4 ⟨rfl, hb4⟩
    go_wp2_with fail
    refine (sameInts_c _ _ _ _ _ _ (ofQ W xs) (ofQ W xs) _ (hQ3.next hb4).rd (hQ2.next hb4).rd (by omega)).mono ?_
    rw [decide_eq_true rfl]
    rintro e w5 ⟨rfl, hb5⟩
    have kA5 : Blk w5 w1.heap.size _ _ := kA2.next (by (repeat (first | exact Below.refl _ _ | assumption | refine lo_alloc ?_ _ | refine lo_set ?_ (by simp; try omega) _ | refine Below.drew ?_ | refine below_drewN ?_ _ | refine lo_trans ?_ (by assumption) | refine lo_wr ?_ (by assumption) (by omega))))
    have hpa := Lib.hid (wFit_parts hF.out)
    have hs4 := hb4.size
    have hs5 := hb5.size
    have X5 : Own w5 _ X x xs := hX.next (by (repeat (first | exact Below.refl _ _ | assumption | refine lo_alloc ?_ _ | refine lo_set ?_ (by simp; try omega) _ | refine Below.drew ?_ | refine below_drewN ?_ _ | refine lo_trans ?_ (by assumption) | refine lo_wr ?_ (by assumption) (by omega))))
    have P5 : Own w5 _ P p _ := hP3.next (by (repeat (first | exact Below.refl _ _ | assumption | refine lo_alloc ?_ _ | refine lo_set ?_ (by simp; try omega) _ | refine Below.drew ?_ | refine below_drewN ?_ _ | refine lo_trans ?_ (by assumption) | refine lo_wr ?_ (by assumption) (by omega))))
    have Q5 : Own w5 _ Q q _ := hQ3.next (by (repeat (first | exact Below.refl _ _ | assumption | refine lo_alloc ?_ _ | refine lo_set ?_ (by simp; try omega) _ | refine Below.drew ?_ | refine below_drewN ?_ _ | refine lo_trans ?_ (by assumption) | refine lo_wr ?_ (by assumption) (by omega))))
    have H5 : Below w.heap.size w w5 := by (repeat (first | exact Below.refl _ _ | assumption | refine lo_alloc ?_ _ | refine lo_set ?_ (by simp; try omega) _ | refine Below.drew ?_ | refine below_drewN ?_ _ | refine lo_trans ?_ (by assumption) | refine lo_wr ?_ (by assumption) (by omega)))
    clear hb1 hbA hb2 hb3 hb4 hb5 hX hP hQ hP2 hQ2 hP3 hQ3 kA2 hkA
    go_wp2_with fail
    refine (impl_WeightsImage_c _ _ _ _ _ _ (ofP W xs) (ofQ W xs) _ P5.rd Q5.rd (by omega) (by omega)).mono ?_
    rw [hpa.out.1, ← hpa.out.2.2.1, ← hpa.out.2.2.2]
    rintro e w6 ⟨R, r, k, rfl, hb6, ho6⟩
    have hs6 := hb6.size
    have hr6 : r ≤ 6 := by rw [← ho6.1, (X5).1]; exact hx6
    have kB := Blk.new w6 28 #[.int .i64 W, .slice R r k]
    have kA6 := (kA5.next hb6).alloc (.cells #[.int .i64 W, .slice R r k] 28)
    have a0 := kA6.cell 0
    have a1 := kA6.cell 1
    have b0 := kB.cell 0
    have b1 := kB.cell 1
    have hbW := lo_alloc hb6 (.cells #[.int .i64 W, .slice R r k] 28)
    go_wp2_with fail
    refine (lsameImage_t W _ _ _ _ _ _ xs _ (ho6.alloc _).rd (X5.next hbW).rd (by omega)).mono ?_
    rintro e w7 ⟨rfl, hb7⟩
    have hb57 := lo_trans hbW hb7
    have kA7 := kA6.next hb7
    clear a0 a1 b0 b1 kA6 kB hbW hb7 hb6
    have a0 := kA7.cell 0
    have a1 := kA7.cell 1
    go_wp2_with fail
    refine (impl_WeightsFit_c _ _ _ _ _ _ _ _ _ _ xs (ofP W xs) (ofQ W xs) _ (X5.next hb57).rd (P5.next hb57).rd (Q5.next hb57).rd (by omega) (by omega) (by omega)).mono ?_
    rw [hF.out]
    rintro e w8 ⟨rfl, hb8⟩
    go_wp2
    go_ret
    exact ⟨rfl, lo_trans H5 (lo_trans hb57 hb8)⟩
end Go.Proofs.Ytbhpiefpmagkbaa
