/- The law FnWeightsImage walked. -/
import Derived.Test.YtlhhafgfpmgbcaaDw
import Derived.Test.YtlhhafgfpmgbcaaSu
import Derived.Test.YtlhhafgfpmgbcaaMathD
namespace Go.Proofs.Ytlhhafgfpmgbcaa
open Go.RowKit

set_option maxHeartbeats 4000000 in
theorem law_WeightsImage (A : Option Addr) (n c : Nat) (w : World) (hr : RdB w A n) (hb : n ≤ maxLen ∧ n ≤ c) :
    Calls Try.prog 5 #[.slice A n c] w fun e w' => e = .returned (.bool true) ∧ Below w.heap.size w w' := by
  by_cases h1 : 1048576 < n
  · go_enter Try.func5, Try.ntmps5
    go_wp2
    go_ret
    exact ⟨rfl, by (repeat (first | exact Below.refl _ _ | assumption | refine lo_alloc ?_ _ | refine lo_set ?_ (by simp; try omega) _ | refine Below.drew ?_ | refine below_drewN ?_ _ | refine lo_trans ?_ (by assumption) | refine lo_wr ?_ (by assumption) (by omega)))⟩
  go_enter Try.func5, Try.ntmps5
  go_wp2_with fail
  refine (DrawWeightsImage_c A n c _ hr (by omega) hb.2).mono ?_
  rintro e w1 ⟨P, l, a, Q, m, b, p, q, rfl, hl, hm, ho1, ho2, hb1⟩
  have hs1 := hb1.size
  go_wp2_with fail
  refine (impl_WeightsImage_c _ _ _ _ _ _ p q _ ho1.rd ho2.rd (by omega) (by omega)).mono ?_
  rintro e w2 ⟨R, r, k, rfl, hb2, ho3⟩
  have hr1 : r ≤ 6 := by rw [← ho3.1]; exact wX_len p q
  have hs2 := hb2.size
  have hkA := Blk.new w2 24 #[.int .i64 (wW p q), .slice R r k]
  have hbA := lo_alloc (Below.refl w2.heap.size w2) (.cells #[.int .i64 (wW p q), .slice R r k] 24)
  have hbAz : w2.heap.size < (w2.alloc (.cells #[.int .i64 (wW p q), .slice R r k] 24)).heap.size := by simp
  go_wp2_with fail
  generalize w2.alloc (.cells #[.int .i64 (wW p q), .slice R r k] 24) = wA at hkA hbA hbAz  ⊢
  refine (spec_WeightsImage_c _ _ _ _ _ _ p q _ (ho1.next (by (repeat (first | exact Below.refl _ _ | assumption | refine lo_alloc ?_ _ | refine lo_set ?_ (by simp; try omega) _ | refine Below.drew ?_ | refine below_drewN ?_ _ | refine lo_trans ?_ (by assumption) | refine lo_wr ?_ (by assumption) (by omega))))).rd (ho2.next (by (repeat (first | exact Below.refl _ _ | assumption | refine lo_alloc ?_ _ | refine lo_set ?_ (by simp; try omega) _ | refine Below.drew ?_ | refine below_drewN ?_ _ | refine lo_trans ?_ (by assumption) | refine lo_wr ?_ (by assumption) (by omega))))).rd (by omega) (by omega)).mono ?_
  rintro e w3 ⟨S, s, j, rfl, hb3, ho4⟩
  have hs3 := hb3.size
  have a' : Blk (w3.alloc (.cells #[.int .i64 (wW p q), .slice S s j] 24)) _ _ _ := hkA.next (by (repeat (first | exact Below.refl _ _ | assumption | refine lo_alloc ?_ _ | refine lo_set ?_ (by simp; try omega) _ | refine Below.drew ?_ | refine below_drewN ?_ _ | refine lo_trans ?_ (by assumption) | refine lo_wr ?_ (by assumption) (by omega))))
  have a0 := a'.cell 0
  have a1 := a'.cell 1
  clear a'
  have hkB := Blk.new w3 24 #[.int .i64 (wW p q), .slice S s j]
  have hbB := lo_alloc (Below.refl w3.heap.size w3) (.cells #[.int .i64 (wW p q), .slice S s j] 24)
  have hbBz : w3.heap.size < (w3.alloc (.cells #[.int .i64 (wW p q), .slice S s j] 24)).heap.size := by simp
  go_wp2_with fail
  generalize w3.alloc (.cells #[.int .i64 (wW p q), .slice S s j] 24) = wB at hkB hbB hbBz a0 a1 ⊢
  refine (lsameImage_t _ _ _ _ _ _ _ (wX p q) _ (ho3.next (by (repeat (first | exact Below.refl _ _ | assumption | refine lo_alloc ?_ _ | refine lo_set ?_ (by simp; try omega) _ | refine Below.drew ?_ | refine below_drewN ?_ _ | refine lo_trans ?_ (by assumption) | refine lo_wr ?_ (by assumption) (by omega))))).rd (ho4.next (by (repeat (first | exact Below.refl _ _ | assumption | refine lo_alloc ?_ _ | refine lo_set ?_ (by simp; try omega) _ | refine Below.drew ?_ | refine below_drewN ?_ _ | refine lo_trans ?_ (by assumption) | refine lo_wr ?_ (by assumption) (by omega))))).rd (by omega)).mono ?_
  rintro e w4 ⟨rfl, hb4⟩
  have hs4 := hb4.size
  clear a0 a1
  have kA4 : Blk w4 w2.heap.size _ _ := hkA.next (by (repeat (first | exact Below.refl _ _ | assumption | refine lo_alloc ?_ _ | refine lo_set ?_ (by simp; try omega) _ | refine Below.drew ?_ | refine below_drewN ?_ _ | refine lo_trans ?_ (by assumption) | refine lo_wr ?_ (by assumption) (by omega))))
  have kB4 : Blk w4 w3.heap.size _ _ := hkB.next (by (repeat (first | exact Below.refl _ _ | assumption | refine lo_alloc ?_ _ | refine lo_set ?_ (by simp; try omega) _ | refine Below.drew ?_ | refine below_drewN ?_ _ | refine lo_trans ?_ (by assumption) | refine lo_wr ?_ (by assumption) (by omega))))
  have a0 := kA4.cell 0
  have a1 := kA4.cell 1
  have b0 := kB4.cell 0
  have b1 := kB4.cell 1
  cases hO : wOk p q with
  | false =>
    go_wp2_with fail
    refine (lsameImage_t _ _ _ _ _ _ _ (wX p q) _ (ho3.next (by (repeat (first | exact Below.refl _ _ | assumption | refine lo_alloc ?_ _ | refine lo_set ?_ (by simp; try omega) _ | refine Below.drew ?_ | refine below_drewN ?_ _ | refine lo_trans ?_ (by assumption) | refine lo_wr ?_ (by assumption) (by omega))))).rd (ho4.next (by (repeat (first | exact Below.refl _ _ | assumption | refine lo_alloc ?_ _ | refine lo_set ?_ (by simp; try omega) _ | refine Below.drew ?_ | refine below_drewN ?_ _ | refine lo_trans ?_ (by assumption) | refine lo_wr ?_ (by assumption) (by omega))))).rd (by omega)).mono ?_
    rintro e w5 ⟨rfl, hb5⟩
    go_wp2
    go_ret
    exact ⟨rfl, by (repeat (first | exact Below.refl _ _ | assumption | refine lo_alloc ?_ _ | refine lo_set ?_ (by simp; try omega) _ | refine Below.drew ?_ | refine below_drewN ?_ _ | refine lo_trans ?_ (by assumption) | refine lo_wr ?_ (by assumption) (by omega)))⟩
  | true =>
    have hO' := Lib.hid hO
    clear b0 b1 kB4
    go_wp2_with fail
    refine (RowSums_c _ _ _ _ (wX p q) _ (ho3.next (by (repeat (first | exact Below.refl _ _ | assumption | refine lo_alloc ?_ _ | refine lo_set ?_ (by simp; try omega) _ | refine Below.drew ?_ | refine below_drewN ?_ _ | refine lo_trans ?_ (by assumption) | refine lo_wr ?_ (by assumption) (by omega))))).rd (by omega)).mono ?_
    rintro e w5 ⟨R1, r1, d1, rfl, hb5, ho5⟩
    have hs5 := hb5.size
    clear a0 a1
    have kA5 : Blk w5 w2.heap.size _ _ := kA4.next hb5
    have a0 := kA5.cell 0
    have a1 := kA5.cell 1
    go_wp2_with fail
    refine (ColSums_c _ _ _ _ (wX p q) _ (ho3.next (by (repeat (first | exact Below.refl _ _ | assumption | refine lo_alloc ?_ _ | refine lo_set ?_ (by simp; try omega) _ | refine Below.drew ?_ | refine below_drewN ?_ _ | refine lo_trans ?_ (by assumption) | refine lo_wr ?_ (by assumption) (by omega))))).rd (by omega)).mono ?_
    rintro e w6 ⟨R2, r2, d2, rfl, hb6, ho6⟩
    have hs6 := hb6.size
    clear a0 a1 hO
    have e1 : r1 = l := by rw [← ho5.1, rS_len (wX_ok hO'.out), wX_length hO'.out, ho1.1]
    have e2 : r2 = m := by
      have h := wX_ok hO'.out
      rw [wW_eq hO'.out] at h
      have ho6 := ho6.1
      rw [wW_eq hO'.out, cS_len h, ho2.1] at ho6
      exact ho6.symm
    subst e1
    subst e2
    have O1 : Own w6 _ P r1 p := ho1.next (by (repeat (first | exact Below.refl _ _ | assumption | refine lo_alloc ?_ _ | refine lo_set ?_ (by simp; try omega) _ | refine Below.drew ?_ | refine below_drewN ?_ _ | refine lo_trans ?_ (by assumption) | refine lo_wr ?_ (by assumption) (by omega))))
    have O2 : Own w6 _ Q r2 q := ho2.next (by (repeat (first | exact Below.refl _ _ | assumption | refine lo_alloc ?_ _ | refine lo_set ?_ (by simp; try omega) _ | refine Below.drew ?_ | refine below_drewN ?_ _ | refine lo_trans ?_ (by assumption) | refine lo_wr ?_ (by assumption) (by omega))))
    have O5 : Own w6 _ R1 r1 (rSums (wW p q) (wX p q)) := ho5.next hb6
    have O3 : Own w6 _ R r (wX p q) := ho3.next (by (repeat (first | exact Below.refl _ _ | assumption | refine lo_alloc ?_ _ | refine lo_set ?_ (by simp; try omega) _ | refine Below.drew ?_ | refine below_drewN ?_ _ | refine lo_trans ?_ (by assumption) | refine lo_wr ?_ (by assumption) (by omega))))
    have O6 : Own w6 _ R2 r2 (cSums (wW p q) (wX p q)) := ho6
    have kA6 : Blk w6 w2.heap.size _ _ := kA5.next hb6
    have H0 : Below w.heap.size w w6 := by (repeat (first | exact Below.refl _ _ | assumption | refine lo_alloc ?_ _ | refine lo_set ?_ (by simp; try omega) _ | refine Below.drew ?_ | refine below_drewN ?_ _ | refine lo_trans ?_ (by assumption) | refine lo_wr ?_ (by assumption) (by omega)))
    clear hb1 ho1 ho2 hb2 hbA hb3 hbB hb4 hb5 hb6 ho5 kA5 kA4 hkA hkB ho3 ho4
    go_wp2
    go_loopw [11] (fun i wr => ∃ x : Nat, x ≤ r1 ∧ i = .int .i64 x ∧ Below w6.heap.size w6 wr) (fun i _ => r1 - (intOf i).toNat)
    case atStart => exact ⟨0, Nat.zero_le _, rfl, Below.refl _ _⟩
    case round =>
      obtain ⟨x, hx, rfl, hB⟩ := hrel
      obtain ⟨wo, rfl⟩ : ∃ wo : World, wo = wr := ⟨_, rfl⟩
      by_cases hlt : x < r1
      · go_wp2
        go_loopw [12] (fun i wr => ∃ y : Nat, y ≤ r1 ∧ i = .int .i64 y ∧ Below w6.heap.size w6 wr) (fun i _ => r1 - (intOf i).toNat)
        case atStart => exact ⟨0, Nat.zero_le _, rfl, hB⟩
        case round =>
          clear hB
          obtain ⟨y, hy, rfl, hB⟩ := hrel
          by_cases hlt2 : y < r1
          · obtain ⟨g1, rfl, _, _, c1, _, _⟩ := (O1.next hB).at_ hlt
            obtain ⟨_, e1, _, _, c2, _, _⟩ := (O1.next hB).at_ hlt2
            cases e1
            obtain ⟨g2, rfl, _, _, c3, _, _⟩ := (O5.next hB).at_ hlt
            obtain ⟨_, e2, _, _, c4, _, _⟩ := (O5.next hB).at_ hlt2
            cases e2
            by_cases hle : p[y]?.getD 0 ≤ p[x]?.getD 0
            · have hm' := w_rows_mono hO'.out (i := x) (k := y) (by rw [O1.1]; exact hlt) (by rw [O1.1]; exact hlt2) hle
              go_wp2
              go_quiet (fail)
              go_wp2
              go_roundw
              case rel => exact ⟨y + 1, by omega, by go_num, below_drewN hB _⟩
              case measure => simp [intOf]; omega
            · have hd : decide (p[y]?.getD 0 ≤ p[x]?.getD 0) = false := by simpa using hle
              go_wp2
              go_quiet (fail)
              go_wp2
              go_roundw
              case rel => exact ⟨y + 1, by omega, by go_num, below_drewN hB _⟩
              case measure => simp [intOf]; omega
          · go_wp2
            go_roundw
            case rel => exact ⟨x + 1, by omega, by go_num, hB⟩
            case measure => simp [intOf]; omega
      · obtain ⟨wp, rfl⟩ : ∃ wp : World, wp = wo := ⟨_, rfl⟩
        go_wp2
        go_loopw [13] (fun i wr => ∃ x : Nat, x ≤ r2 ∧ i = .int .i64 x ∧ Below w6.heap.size w6 wr) (fun i _ => r2 - (intOf i).toNat)
        case atStart => exact ⟨0, Nat.zero_le _, rfl, hB⟩
        case round =>
          clear hB
          obtain ⟨x, hx, rfl, hB⟩ := hrel
          obtain ⟨wo, rfl⟩ : ∃ wo : World, wo = wr := ⟨_, rfl⟩
          by_cases hlt : x < r2
          · go_wp2
            go_loopw [14] (fun i wr => ∃ y : Nat, y ≤ r2 ∧ i = .int .i64 y ∧ Below w6.heap.size w6 wr) (fun i _ => r2 - (intOf i).toNat)
            case atStart => exact ⟨0, Nat.zero_le _, rfl, hB⟩
            case round =>
              clear hB
              obtain ⟨y, hy, rfl, hB⟩ := hrel
              by_cases hlt2 : y < r2
              · obtain ⟨g1, rfl, _, _, c1, _, _⟩ := (O2.next hB).at_ hlt
                obtain ⟨_, e1, _, _, c2, _, _⟩ := (O2.next hB).at_ hlt2
                cases e1
                obtain ⟨g2, rfl, _, _, c3, _, _⟩ := (O6.next hB).at_ hlt
                obtain ⟨_, e2, _, _, c4, _, _⟩ := (O6.next hB).at_ hlt2
                cases e2
                by_cases hle : q[y]?.getD 0 ≤ q[x]?.getD 0
                · have hm' := w_cols_mono hO'.out (i := x) (k := y) (by rw [O2.1]; exact hlt) (by rw [O2.1]; exact hlt2) hle
                  go_wp2
                  go_quiet (fail)
                  go_wp2
                  go_roundw
                  case rel => exact ⟨y + 1, by omega, by go_num, below_drewN hB _⟩
                  case measure => simp [intOf]; omega
                · have hd : decide (q[y]?.getD 0 ≤ q[x]?.getD 0) = false := by simpa using hle
                  go_wp2
                  go_quiet (fail)
                  go_wp2
                  go_roundw
                  case rel => exact ⟨y + 1, by omega, by go_num, below_drewN hB _⟩
                  case measure => simp [intOf]; omega
              · go_wp2
                go_roundw
                case rel => exact ⟨x + 1, by omega, by go_num, hB⟩
                case measure => simp [intOf]; omega
          · have kA7 := (kA6.next hB).cell 0
            have kA8 := (kA6.next hB).cell 1
            go_wp2_with fail
            refine (impl_ImageValid_c _ _ _ _ (wX p q) _ (O3.next hB).rd (by omega)).mono ?_
            rw [wX_ok hO'.out]
            rintro e w7 ⟨rfl, hb7⟩
            clear kA7 kA8
            have kA7 := ((kA6.next hB).next hb7).cell 0
            have kA8 := ((kA6.next hB).next hb7).cell 1
            go_wp2_with fail
            refine (impl_WeightsFit_c _ _ _ _ _ _ _ _ _ _ (wX p q) p q _ ((O3.next hB).next hb7).rd ((O1.next hB).next hb7).rd ((O2.next hB).next hb7).rd (by omega) (by omega) (by omega)).mono ?_
            rw [wFit_self hO'.out]
            rintro e w8 ⟨rfl, hb8⟩
            go_wp2
            go_ret
            exact ⟨rfl, lo_trans (lo_trans (lo_trans H0 hB) hb7) hb8⟩
end Go.Proofs.Ytlhhafgfpmgbcaa
