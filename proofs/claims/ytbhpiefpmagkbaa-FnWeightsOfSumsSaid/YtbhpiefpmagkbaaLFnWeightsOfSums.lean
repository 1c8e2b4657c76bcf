/- The law FnWeightsOfSums walked. -/
import Derived.Test.YtbhpiefpmagkbaaWo
import Derived.Test.YtbhpiefpmagkbaaDrU
import Derived.Test.YtbhpiefpmagkbaaMathWu
namespace Go.Proofs.Ytbhpiefpmagkbaa
open Go.RowKit

set_option maxRecDepth 100000 in
set_option maxHeartbeats 8000000 in
theorem law_WeightsOfSums (A : Option Addr) (n c : Nat) (w : World) (hr : RdB w A n) (hb : n ≤ maxLen ∧ n ≤ c) :
    Calls Try.prog 5 #[.slice A n c] w fun e w' => e = .returned (.bool true) ∧ Below w.heap.size w w' := by
  by_cases h1 : 1048576 < n
  · go_enter Try.func5, Try.ntmps5
    go_wp2
    go_ret
    exact ⟨rfl, by (repeat (first | exact Below.refl _ _ | assumption | refine lo_alloc ?_ _ | refine lo_set ?_ (by simp; try omega) _ | refine Below.drew ?_ | refine below_drewN ?_ _ | refine lo_trans ?_ (by assumption) | refine lo_wr ?_ (by assumption) (by omega)))⟩
  go_enter Try.func5, Try.ntmps5
  go_wp2_with fail
  refine (DrawWeightsOf_c A n c _ hr (by omega) hb.2).mono ?_
  rintro e w1 ⟨W, X, x, x', xs, rfl, hx6, hX, hb1⟩
  have hs1 := hb1.size
  have hkA := Blk.new w1 28 #[.int .i64 W, .slice X x x']
  have hbA := lo_alloc (Below.refl w1.heap.size w1) (.cells #[.int .i64 W, .slice X x x'] 28)
  have hbAz : w1.heap.size < (w1.alloc (.cells #[.int .i64 W, .slice X x x'] 28)).heap.size := by simp
  go_wp2_with fail
  generalize w1.alloc (.cells #[.int .i64 W, .slice X x x'] 28) = wA at hkA hbA hbAz  ⊢
  refine (impl_WeightsOf_c _ _ _ _ xs _ (hX.next (by (repeat (first | exact Below.refl _ _ | assumption | refine lo_alloc ?_ _ | refine lo_set ?_ (by simp; try omega) _ | refine Below.drew ?_ | refine below_drewN ?_ _ | refine lo_trans ?_ (by assumption) | refine lo_wr ?_ (by assumption) (by omega))))).rd (by omega)).mono ?_
  rintro e w2 ⟨P, p, p', Q, q, q', rfl, hb2, hP, hQ, hne⟩
  have hp6 : p ≤ 6 := by rw [← hP.1]; exact ofP_len
  have hq6 : q ≤ 6 := by rw [← hQ.1]; exact ofQ_len
  have hs2 := hb2.size
  have kA2 : Blk w2 w1.heap.size _ _ := hkA.next hb2
  have a0 := kA2.cell 0
  have a1 := kA2.cell 1
  go_wp2_with fail
  refine (spec_WeightsOf_c _ _ _ _ xs _ (hX.next (by (repeat (first | exact Below.refl _ _ | assumption | refine lo_alloc ?_ _ | refine lo_set ?_ (by simp; try omega) _ | refine Below.drew ?_ | refine below_drewN ?_ _ | refine lo_trans ?_ (by assumption) | refine lo_wr ?_ (by assumption) (by omega))))).rd (by omega)).mono ?_
  rintro e w3 ⟨P2, p2, p2', Q2, q2, q2', rfl, hb3, hP2, hQ2, hne2⟩
  have hs3 := hb3.size
  clear a0 a1
  have hP3 : Own w3 _ P p _ := hP.next (by (repeat (first | exact Below.refl _ _ | assumption | refine lo_alloc ?_ _ | refine lo_set ?_ (by simp; try omega) _ | refine Below.drew ?_ | refine below_drewN ?_ _ | refine lo_trans ?_ (by assumption) | refine lo_wr ?_ (by assumption) (by omega))))
  have hQ3 : Own w3 _ Q q _ := hQ.next (by (repeat (first | exact Below.refl _ _ | assumption | refine lo_alloc ?_ _ | refine lo_set ?_ (by simp; try omega) _ | refine Below.drew ?_ | refine below_drewN ?_ _ | refine lo_trans ?_ (by assumption) | refine lo_wr ?_ (by assumption) (by omega))))
  cases hu : uniqB W xs with
  | false =>
    go_wp2_with fail
    refine (sameInts_c _ _ _ _ _ _ (ofP W xs) (ofP W xs) _ hP3.rd hP2.rd (by omega)).mono ?_
    rw [decide_eq_true rfl]
    rintro e w4 ⟨rfl, hb4⟩
    go_wp2_with fail
    refine (sameInts_c _ _ _ _ _ _ (ofQ W xs) (ofQ W xs) _ (hQ3.next hb4).rd (hQ2.next hb4).rd (by omega)).mono ?_
    rw [decide_eq_true rfl]
    rintro e w5 ⟨rfl, hb5⟩
    go_wp2_with fail
    refine (sameInts_c _ _ _ _ _ _ (ofP W xs) (ofP W xs) _ (hP3.next (by (repeat (first | exact Below.refl _ _ | assumption | refine lo_alloc ?_ _ | refine lo_set ?_ (by simp; try omega) _ | refine Below.drew ?_ | refine below_drewN ?_ _ | refine lo_trans ?_ (by assumption) | refine lo_wr ?_ (by assumption) (by omega))))).rd (hP2.next (by (repeat (first | exact Below.refl _ _ | assumption | refine lo_alloc ?_ _ | refine lo_set ?_ (by simp; try omega) _ | refine Below.drew ?_ | refine below_drewN ?_ _ | refine lo_trans ?_ (by assumption) | refine lo_wr ?_ (by assumption) (by omega))))).rd (by omega)).mono ?_
    rw [decide_eq_true rfl]
    rintro e w6 ⟨rfl, hb6⟩
    go_wp2_with fail
    refine (sameInts_c _ _ _ _ _ _ (ofQ W xs) (ofQ W xs) _ (hQ3.next (by (repeat (first | exact Below.refl _ _ | assumption | refine lo_alloc ?_ _ | refine lo_set ?_ (by simp; try omega) _ | refine Below.drew ?_ | refine below_drewN ?_ _ | refine lo_trans ?_ (by assumption) | refine lo_wr ?_ (by assumption) (by omega))))).rd (hQ2.next (by (repeat (first | exact Below.refl _ _ | assumption | refine lo_alloc ?_ _ | refine lo_set ?_ (by simp; try omega) _ | refine Below.drew ?_ | refine below_drewN ?_ _ | refine lo_trans ?_ (by assumption) | refine lo_wr ?_ (by assumption) (by omega))))).rd (by omega)).mono ?_
    rw [decide_eq_true rfl]
    rintro e w7 ⟨rfl, hb7⟩
    go_wp2
    go_ret
    exact ⟨rfl, by (repeat (first | exact Below.refl _ _ | assumption | refine lo_alloc ?_ _ | refine lo_set ?_ (by simp; try omega) _ | refine Below.drew ?_ | refine below_drewN ?_ _ | refine lo_trans ?_ (by assumption) | refine lo_wr ?_ (by assumption) (by omega)))⟩
  | true =>
    have hu' := Lib.hid hu
    have hF := Lib.hid (uniq_fit hu)
    have hk' := Lib.hid (uniqB_ok hu)
    clear hu
    go_wp2_with fail
    refine (sameInts_c _ _ _ _ _ _ (ofP W xs) (ofP W xs) _ hP3.rd hP2.rd (by omega)).mono ?_
    rw [decide_eq_true rfl]
    rintro e w4 ⟨rfl, hb4⟩
    go_wp2_with fail
    refine (sameInts_c _ _ _ _ _ _ (ofQ W xs) (ofQ W xs) _ (hQ3.next hb4).rd (hQ2.next hb4).rd (by omega)).mono ?_
    rw [decide_eq_true rfl]
    rintro e w5 ⟨rfl, hb5⟩
    have kA5 : Blk w5 w1.heap.size _ _ := kA2.next (by (repeat (first | exact Below.refl _ _ | assumption | refine lo_alloc ?_ _ | refine lo_set ?_ (by simp; try omega) _ | refine Below.drew ?_ | refine below_drewN ?_ _ | refine lo_trans ?_ (by assumption) | refine lo_wr ?_ (by assumption) (by omega))))
    have hbd := okB_bd hk'.out
    have hs4 := hb4.size
    have hs5 := hb5.size
    have X5 : Own w5 _ X x xs := hX.next (by (repeat (first | exact Below.refl _ _ | assumption | refine lo_alloc ?_ _ | refine lo_set ?_ (by simp; try omega) _ | refine Below.drew ?_ | refine below_drewN ?_ _ | refine lo_trans ?_ (by assumption) | refine lo_wr ?_ (by assumption) (by omega))))
    have P5 : Own w5 _ P p _ := hP3.next (by (repeat (first | exact Below.refl _ _ | assumption | refine lo_alloc ?_ _ | refine lo_set ?_ (by simp; try omega) _ | refine Below.drew ?_ | refine below_drewN ?_ _ | refine lo_trans ?_ (by assumption) | refine lo_wr ?_ (by assumption) (by omega))))
    have Q5 : Own w5 _ Q q _ := hQ3.next (by (repeat (first | exact Below.refl _ _ | assumption | refine lo_alloc ?_ _ | refine lo_set ?_ (by simp; try omega) _ | refine Below.drew ?_ | refine below_drewN ?_ _ | refine lo_trans ?_ (by assumption) | refine lo_wr ?_ (by assumption) (by omega))))
    have H5 : Below w.heap.size w w5 := by (repeat (first | exact Below.refl _ _ | assumption | refine lo_alloc ?_ _ | refine lo_set ?_ (by simp; try omega) _ | refine Below.drew ?_ | refine below_drewN ?_ _ | refine lo_trans ?_ (by assumption) | refine lo_wr ?_ (by assumption) (by omega)))
    clear hb1 hbA hb2 hb3 hb4 hb5 hX hP hQ hP2 hQ2 hP3 hQ3 kA2 hkA
    obtain ⟨m, rfl⟩ := Int.eq_ofNat_of_zero_le (show 0 ≤ W by omega)
    have hE1 := Lib.hid (show ofP (m : Int) xs = wP (rsum xs) by rw [ofP, hu'.out]; rfl)
    have hE2 := Lib.hid (show ofQ (m : Int) xs = wQ (ordL (csum m xs)) m by rw [ofQ, hu'.out, Int.toNat_natCast]; rfl)
    have hSr := Lib.hid (show rSums (m : Int) xs = rsum xs by rw [rSums, hk'.out]; rfl)
    have hSc := Lib.hid (show cSums (m : Int) xs = csum m xs by rw [cSums, hk'.out, Int.toNat_natCast]; rfl)
    rw [hE1.out] at P5
    rw [hE2.out] at Q5
    have hpn : Hid (p = xs.length) := Lib.hid (by have := P5.1; rw [wP_len, rsum_len] at this; omega)
    have hqn : Hid (q = m) := Lib.hid (by have := Q5.1; rw [wQ_len] at this; omega)
    have hxn := Lib.hid X5.1
    have a0 := kA5.cell 0
    have a1 := kA5.cell 1
    go_wp2_with fail
    refine (RowSums_c _ _ _ _ xs _ X5.rd (by omega)).mono ?_
    rw [hSr.out]
    rintro e w6 ⟨R, r, d, rfl, hb6, hR⟩
    have hrn : Hid (r = xs.length) := Lib.hid (by have := hR.1; rw [rsum_len] at this; omega)
    have kA6 := kA5.next hb6
    clear a0 a1
    have a0 := kA6.cell 0
    have a1 := kA6.cell 1
    go_wp2_with fail
    refine (ColSums_c _ _ _ _ xs _ (X5.next hb6).rd (by omega)).mono ?_
    rw [hSc.out]
    rintro e w7 ⟨C, s, d', rfl, hb7, hC⟩
    have hsn : Hid (s = m) := Lib.hid (by have := hC.1; rw [csum_len] at this; omega)
    have hb57 := lo_trans hb6 hb7
    have P7 := P5.next hb57
    have Q7 := Q5.next hb57
    have R7 := hR.next hb7
    have H7 := lo_trans H5 hb57
    clear a0 a1 kA6 kA5 hb6 hb7 hb57 P5 Q5 hR X5 H5
    have hpr : p = r := by rw [hpn.out, hrn.out]
    have hqs : q = s := by rw [hqn.out, hsn.out]
    have hsm := hsn
    have hrx := hrn
    have hs6 : s ≤ 6 := by omega
    have hr6 : r ≤ 6 := by omega
    clear hpn hqn hxn hrn hsn hbd
    subst hpr hqs
    go_wp2
    go_loopw [12] (fun i wr => ∃ k : Nat, k ≤ p ∧ i = .int .i64 k ∧ Below w7.heap.size w7 wr) (fun i _ => p - (intOf i).toNat)
    case atStart => exact ⟨0, Nat.zero_le _, rfl, Below.refl _ _⟩
    case round =>
      obtain ⟨k, hk, rfl, hL⟩ := hrel
      by_cases hlt : k < p
      · obtain ⟨g1, rfl, _, _, c1, _, _⟩ := (P7.next hL).at_ hlt
        obtain ⟨g2, rfl, _, _, c2, _, _⟩ := (R7.next hL).at_ hlt
        rw [wP_get (by rw [rsum_len, ← hrx.out]; exact hlt)] at c1
        obtain ⟨hy1, hy2⟩ := rsum_bd xs (k := k) (by rw [← hrx.out]; exact hlt)
        generalize (rsum xs)[k]?.getD 0 = y at c1 c2 hy1 hy2
        have hbe : (2 * y + 1 != 2 * y + 1) = false := by simp
        go_wp2
        go_quiet (fail)
        go_wp2
        go_roundw
        case rel => exact ⟨k + 1, by omega, by go_num, below_drewN hL _⟩
        case measure => simp [intOf]; omega
      · obtain ⟨wp, rfl⟩ : ∃ wp : World, wp = wr := ⟨_, rfl⟩
        clear P7 R7
        go_wp2
        go_loopw [13] (fun i wr => ∃ k : Nat, k ≤ q ∧ i = .int .i64 k ∧ Below w7.heap.size w7 wr) (fun i _ => q - (intOf i).toNat)
        case atStart => exact ⟨0, Nat.zero_le _, rfl, hL⟩
        case round =>
          clear hL
          obtain ⟨j, hj, rfl, hL⟩ := hrel
          by_cases hlt2 : j < q
          · obtain ⟨wo, rfl⟩ : ∃ wo : World, wo = wr := ⟨_, rfl⟩
            go_wp2
            go_loopw [14] (fun i wr => ∃ k : Nat, k ≤ q ∧ i = .int .i64 k ∧ Below w7.heap.size w7 wr) (fun i _ => q - (intOf i).toNat)
            case atStart => exact ⟨0, Nat.zero_le _, rfl, hL⟩
            case round =>
              clear hL
              obtain ⟨k', hk', rfl, hL⟩ := hrel
              by_cases hlt3 : k' < q
              · obtain ⟨g1, rfl, _, _, c1, _, _⟩ := (Q7.next hL).at_ hlt2
                obtain ⟨_, e1, _, _, c2, _, _⟩ := (Q7.next hL).at_ hlt3
                cases e1
                obtain ⟨g2, rfl, _, _, c3, _, _⟩ := (hC.next hL).at_ hlt2
                obtain ⟨_, e2, _, _, c4, _, _⟩ := (hC.next hL).at_ hlt3
                cases e2
                obtain ⟨f1, f2, f3, f4, f5⟩ := ofQ_laws (m := m) (xs := xs) (j := j) (k := k') (by rw [← hsm.out]; exact hlt2) (by rw [← hsm.out]; exact hlt3)
                generalize (wQ (ordL (csum m xs)) m)[j]?.getD 0 = z1 at c1 f1 f2 f3 f4 f5
                generalize (wQ (ordL (csum m xs)) m)[k']?.getD 0 = z2 at c2 f4 f5
                generalize (csum m xs)[j]?.getD 0 = d1 at c3 f5
                generalize (csum m xs)[k']?.getD 0 = d2 at c4 f5
                have hsm2 := hsm.out
                have b0 : (z1.tmod 2 != 0) = false := by
                  have : z1.tmod 2 = 0 := Int.tmod_eq_zero_of_dvd (Int.dvd_of_emod_eq_zero f1)
                  rw [this]; rfl
                have b1 : decide (0 ≤ z1) = false := decide_eq_false (by omega)
                clear f1 f3 hsm2
                by_cases hjk : j = k'
                · have b2 : ((j : Int) != (k' : Int)) = false := by simp [hjk]
                  have b3 : decide (d2 < d1) = false ∨ decide (z1 < z2) = false := by
                    by_cases h : d2 < d1
                    · exact .inr (decide_eq_false (by have := f5 h; omega))
                    · exact .inl (decide_eq_false h)
                  clear f4 f5 hjk
                  rcases b3 with b3 | b3
                  · go_wp2
                    go_quiet (fail)
                    go_wp2
                    go_roundw
                    case rel => exact ⟨k' + 1, by omega, by go_num, below_drewN hL _⟩
                    case measure => simp [intOf]; omega
                  · by_cases h4 : d2 < d1
                    · have b4 : decide (d2 < d1) = true := decide_eq_true h4
                      go_wp2
                      go_quiet (fail)
                      go_wp2
                      go_roundw
                      case rel => exact ⟨k' + 1, by omega, by go_num, below_drewN hL _⟩
                      case measure => simp [intOf]; omega
                    · have b4 : decide (d2 < d1) = false := decide_eq_false h4
                      go_wp2
                      go_quiet (fail)
                      go_wp2
                      go_roundw
                      case rel => exact ⟨k' + 1, by omega, by go_num, below_drewN hL _⟩
                      case measure => simp [intOf]; omega
                · have b2 : ((j : Int) != (k' : Int)) = true := by rw [bne_iff_ne]; omega
                  have b5 : (z1 == z2) = false := beq_eq_false_iff_ne.2 (f4 hjk)
                  clear f4 hjk
                  by_cases h4 : d2 < d1
                  · have b4 : decide (d2 < d1) = true := decide_eq_true h4
                    have b3 : decide (z1 < z2) = false := decide_eq_false (by have := f5 h4; omega)
                    clear f5
                    go_wp2
                    go_quiet (fail)
                    go_wp2
                    go_roundw
                    case rel => exact ⟨k' + 1, by omega, by go_num, below_drewN hL _⟩
                    case measure => simp [intOf]; omega
                  · have b4 : decide (d2 < d1) = false := decide_eq_false h4
                    clear f5
                    go_wp2
                    go_quiet (fail)
                    go_wp2
                    go_roundw
                    case rel => exact ⟨k' + 1, by omega, by go_num, below_drewN hL _⟩
                    case measure => simp [intOf]; omega
              · go_wp2
                go_roundw
                case rel => exact ⟨j + 1, by omega, by go_num, hL⟩
                case measure => simp [intOf]; omega
          · go_wp2
            go_ret
            exact ⟨rfl, lo_trans H7 hL⟩
end Go.Proofs.Ytbhpiefpmagkbaa
