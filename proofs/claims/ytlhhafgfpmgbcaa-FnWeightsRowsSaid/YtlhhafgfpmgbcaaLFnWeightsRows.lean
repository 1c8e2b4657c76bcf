/- The law FnWeightsRows walked. -/
import Derived.Test.YtlhhafgfpmgbcaaDv
import Derived.Test.YtlhhafgfpmgbcaaWg
import Derived.Test.YtlhhafgfpmgbcaaBi
namespace Go.Proofs.Ytlhhafgfpmgbcaa
open Go.RowKit

set_option maxRecDepth 100000 in
set_option maxHeartbeats 4000000 in
theorem law_WeightsRows (A : Option Addr) (n c : Nat) (w : World) (hr : RdB w A n) (hb : n ≤ maxLen ∧ n ≤ c) :
    Calls Try.prog 8 #[.slice A n c] w fun e w' => e = .returned (.bool true) ∧ Below w.heap.size w w' := by
  by_cases h1 : 1048576 < n
  · go_enter Try.func8, Try.ntmps8
    go_wp2
    go_ret
    exact ⟨rfl, by (repeat (first | exact Below.refl _ _ | assumption | refine lo_alloc ?_ _ | refine lo_set ?_ (by simp; try omega) _ | refine Below.drew ?_ | refine below_drewN ?_ _ | refine lo_trans ?_ (by assumption) | refine lo_wr ?_ (by assumption) (by omega)))⟩
  go_enter Try.func8, Try.ntmps8
  go_wp2_with fail
  refine (DrawWeightsFit_c A n c _ hr (by omega) hb.2).mono ?_
  rintro e w1 ⟨W, X, x, x', P, l, a, Q, m, b, xs, p, q, rfl, hx6, hl, hm, hX, hP, hQ, hb1⟩
  have hs1 := hb1.size
  have hkA := Blk.new w1 24 #[.int .i64 W, .slice X x x']
  have hbA := lo_alloc (Below.refl w1.heap.size w1) (.cells #[.int .i64 W, .slice X x x'] 24)
  have hbAz : w1.heap.size < (w1.alloc (.cells #[.int .i64 W, .slice X x x'] 24)).heap.size := by simp
  go_wp2_with fail
  generalize w1.alloc (.cells #[.int .i64 W, .slice X x x'] 24) = wA at hkA hbA hbAz  ⊢
  refine (impl_WeightsFit_c _ _ _ _ _ _ _ _ _ _ xs p q _ (hX.next (by (repeat (first | exact Below.refl _ _ | assumption | refine lo_alloc ?_ _ | refine lo_set ?_ (by simp; try omega) _ | refine Below.drew ?_ | refine below_drewN ?_ _ | refine lo_trans ?_ (by assumption) | refine lo_wr ?_ (by assumption) (by omega))))).rd (hP.next (by (repeat (first | exact Below.refl _ _ | assumption | refine lo_alloc ?_ _ | refine lo_set ?_ (by simp; try omega) _ | refine Below.drew ?_ | refine below_drewN ?_ _ | refine lo_trans ?_ (by assumption) | refine lo_wr ?_ (by assumption) (by omega))))).rd (hQ.next (by (repeat (first | exact Below.refl _ _ | assumption | refine lo_alloc ?_ _ | refine lo_set ?_ (by simp; try omega) _ | refine Below.drew ?_ | refine below_drewN ?_ _ | refine lo_trans ?_ (by assumption) | refine lo_wr ?_ (by assumption) (by omega))))).rd (by omega) (by omega) (by omega)).mono ?_
  rintro e w2 ⟨rfl, hb2⟩
  have hs2 := hb2.size
  have kA2 : Blk w2 w1.heap.size _ _ := hkA.next hb2
  have a0 := kA2.cell 0
  have a1 := kA2.cell 1
  go_wp2_with fail
  refine (spec_WeightsFit_c _ _ _ _ _ _ _ _ _ _ xs p q _ (hX.next (by (repeat (first | exact Below.refl _ _ | assumption | refine lo_alloc ?_ _ | refine lo_set ?_ (by simp; try omega) _ | refine Below.drew ?_ | refine below_drewN ?_ _ | refine lo_trans ?_ (by assumption) | refine lo_wr ?_ (by assumption) (by omega))))).rd (hP.next (by (repeat (first | exact Below.refl _ _ | assumption | refine lo_alloc ?_ _ | refine lo_set ?_ (by simp; try omega) _ | refine Below.drew ?_ | refine below_drewN ?_ _ | refine lo_trans ?_ (by assumption) | refine lo_wr ?_ (by assumption) (by omega))))).rd (hQ.next (by (repeat (first | exact Below.refl _ _ | assumption | refine lo_alloc ?_ _ | refine lo_set ?_ (by simp; try omega) _ | refine Below.drew ?_ | refine below_drewN ?_ _ | refine lo_trans ?_ (by assumption) | refine lo_wr ?_ (by assumption) (by omega))))).rd (by omega) (by omega) (by omega)).mono ?_
  rintro e w3 ⟨rfl, hb3⟩
  have hs3 := hb3.size
  clear a0 a1
  cases hF : wFit W xs p q with
  | false =>
    go_wp2
    go_ret
    exact ⟨rfl, by (repeat (first | exact Below.refl _ _ | assumption | refine lo_alloc ?_ _ | refine lo_set ?_ (by simp; try omega) _ | refine Below.drew ?_ | refine below_drewN ?_ _ | refine lo_trans ?_ (by assumption) | refine lo_wr ?_ (by assumption) (by omega)))⟩
  | true =>
    have hF' := Lib.hid hF; clear hF
    have hwp := Lib.hid (wOk_parts (wFit_parts hF'.out).1)
    have kA3 : Blk w3 w1.heap.size _ _ := kA2.next hb3
    have X3 : Own w3 _ X x xs := hX.next (by (repeat (first | exact Below.refl _ _ | assumption | refine lo_alloc ?_ _ | refine lo_set ?_ (by simp; try omega) _ | refine Below.drew ?_ | refine below_drewN ?_ _ | refine lo_trans ?_ (by assumption) | refine lo_wr ?_ (by assumption) (by omega))))
    have P3 : Own w3 _ P l p := hP.next (by (repeat (first | exact Below.refl _ _ | assumption | refine lo_alloc ?_ _ | refine lo_set ?_ (by simp; try omega) _ | refine Below.drew ?_ | refine below_drewN ?_ _ | refine lo_trans ?_ (by assumption) | refine lo_wr ?_ (by assumption) (by omega))))
    have Q3 : Own w3 _ Q m q := hQ.next (by (repeat (first | exact Below.refl _ _ | assumption | refine lo_alloc ?_ _ | refine lo_set ?_ (by simp; try omega) _ | refine Below.drew ?_ | refine below_drewN ?_ _ | refine lo_trans ?_ (by assumption) | refine lo_wr ?_ (by assumption) (by omega))))
    have H0 : Below w.heap.size w w3 := by (repeat (first | exact Below.refl _ _ | assumption | refine lo_alloc ?_ _ | refine lo_set ?_ (by simp; try omega) _ | refine Below.drew ?_ | refine below_drewN ?_ _ | refine lo_trans ?_ (by assumption) | refine lo_wr ?_ (by assumption) (by omega)))
    have hzA := kA3.lt
    clear hb1 hbA hb2 hb3 hX hP hQ kA2 hkA
    have hlen := fit_len hF'.out
    have hWn := Lib.hid hlen.2
    have hxl : Hid (x = l) := Lib.hid (by rw [← X3.1, hlen.1, P3.1])
    have hxr : Rd w3 X l xs := by have := X3.rd; rwa [hxl.out] at this
    have hWm : W = (m : Int) := by rw [hWn.out, Q3.1]
    clear hlen X3 hWn
    subst hWm
    go_wp2
    go_loopw [8] (fun i wr => ∃ u : Nat, u ≤ l ∧ i = .int .i64 u ∧ Below w3.heap.size w3 wr) (fun i _ => l - (intOf i).toNat)
    case atStart => exact ⟨0, Nat.zero_le _, rfl, Below.refl _ _⟩
    case round =>
      obtain ⟨u, hu, rfl, hB⟩ := hrel
      obtain ⟨wo, rfl⟩ : ∃ wo : World, wo = wr := ⟨_, rfl⟩
      by_cases hlt : u < l
      · go_wp2
        go_loopw [9] (fun i wr => ∃ v : Nat, v ≤ l ∧ i = .int .i64 v ∧ Below w3.heap.size w3 wr) (fun i _ => l - (intOf i).toNat)
        case atStart => exact ⟨0, Nat.zero_le _, rfl, hB⟩
        case round =>
          clear hB
          obtain ⟨v, hv, rfl, hB⟩ := hrel
          obtain ⟨wp, rfl⟩ : ∃ wp : World, wp = wr := ⟨_, rfl⟩
          by_cases hlt2 : v < l
          · obtain ⟨gp, rfl, _, _, c1, _, _⟩ := (P3.next hB).at_ hlt
            have c2 := (P3.next hB).cellAt hlt2
            obtain ⟨gx, ox, rfl, _, c3⟩ := (hxr.next hB).at_ hlt
            obtain ⟨_, _, e4, _, c4⟩ := (hxr.next hB).at_ hlt2
            cases e4
            have hux : u < x := by rw [hxl.out]; exact hlt
            have hvx : v < x := by rw [hxl.out]; exact hlt2
            have a0 := (kA3.next hB).cell 0
            have a1 := (kA3.next hB).cell 1
            have hup : u < p.length := by rw [P3.1]; exact hlt
            have hvp : v < p.length := by rw [P3.1]; exact hlt2
            have hup' := Lib.hid hup; have hvp' := Lib.hid hvp; clear hup hvp
            by_cases he : p[u]?.getD 0 = p[v]?.getD 0
            · have hs := fit_same hF'.out hup'.out hvp'.out he
              have he1 : (p[u]?.getD 0 == p[v]?.getD 0) = true := beq_iff_eq.2 he
              have hs1 : (xs[u]?.getD 0 != xs[v]?.getD 0) = false := by simp [hs]
              have hle : ¬ p[v]?.getD 0 < p[u]?.getD 0 := by omega
              clear he hs
              go_wp2
              go_quiet (fail)
              clear a0 a1 c1 c2 c3 c4
              have hB2 := below_drewN hB nq
              generalize wp.drewN nq = wq at hB2 ⊢
              clear hB
              go_wp2
              go_loopw [10] (fun i wr => ∃ j : Nat, j ≤ m ∧ i = .int .i64 j ∧ Below w3.heap.size w3 wr) (fun i _ => m - (intOf i).toNat)
              case atStart => exact ⟨0, Nat.zero_le _, rfl, hB2⟩
              case round =>
                clear hB2
                obtain ⟨j, hj, rfl, hB⟩ := hrel
                have c1 := (P3.next hB).cellAt hlt
                have c2 := (P3.next hB).cellAt hlt2
                have a0 := (kA3.next hB).cell 0
                have a1 := (kA3.next hB).cell 1
                by_cases hjm : j < m
                · go_wp2
                  go_quiet (fail)
                  go_wp2
                  go_roundw
                  case rel => exact ⟨v + 1, by omega, by go_num, below_drewN hB _⟩
                  case measure => simp [intOf]; omega
                · have hjm' : decide ((j : Int) < m) = false := by simpa using hjm
                  go_wp2
                  go_quiet (fail)
                  go_wp2
                  go_roundw
                  case rel => exact ⟨v + 1, by omega, by go_num, below_drewN hB _⟩
                  case measure => simp [intOf]; omega
            · have he1 : (p[u]?.getD 0 == p[v]?.getD 0) = false := beq_eq_false_iff_ne.2 he
              clear he
              by_cases hle : p[v]?.getD 0 < p[u]?.getD 0
              · skip
                go_wp2
                go_quiet (fail)
                clear a0 a1 c1 c2 c3 c4
                have hB2 := below_drewN hB nq
                generalize wp.drewN nq = wq at hB2 ⊢
                clear hB
                go_wp2
                go_loopw [10] (fun i wr => ∃ j : Nat, j ≤ m ∧ i = .int .i64 j ∧ Below w3.heap.size w3 wr) (fun i _ => m - (intOf i).toNat)
                case atStart => exact ⟨0, Nat.zero_le _, rfl, hB2⟩
                case round =>
                  clear hB2
                  obtain ⟨j, hj, rfl, hB⟩ := hrel
                  have c1 := (P3.next hB).cellAt hlt
                  have c2 := (P3.next hB).cellAt hlt2
                  have a0 := (kA3.next hB).cell 0
                  have a1 := (kA3.next hB).cell 1
                  by_cases hjm : j < m
                  · obtain ⟨r1, s1, e1, e2, hr6, hs6, hbit⟩ := fit_bits hF'.out hup'.out hvp'.out hle j
                    obtain ⟨_, _, e3, _, c3⟩ := (hxr.next hB).at_ hlt
                    obtain ⟨_, _, e4, _, c4⟩ := (hxr.next hB).at_ hlt2
                    cases e3
                    cases e4
                    rw [e2] at c3
                    rw [e1] at c4
                    clear e1 e2
                    have hB1 := below_drewN hB
                    go_wp2
                    go_quiet (fail)
                    have hB2 := hB1 nq
                    have c3' : (wr.drewN nq).cell? _ = _ := c3
                    have c4' : (wr.drewN nq).cell? _ = _ := c4
                    have a1' : (wr.drewN nq).cell? _ = _ := a1
                    clear hB1 c1 c2 c3 c4 a0 a1 hB
                    generalize wr.drewN nq = wq at hB2 c3' c4' a1' ⊢
                    go_wp2
                    go_quiet ((first | (go_at_call 28; exact Calls.quiet_of_same (still_of (bit_c r1 j _ (by omega) (by omega)))) | (go_at_call 28; exact Calls.quiet_of_same (still_of (bit_c s1 j _ (by omega) (by omega))))))
                    have hB3 := below_drewN hB2
                    go_wp2
                    go_roundw
                    case rel => exact ⟨j + 1, by omega, by go_num, hB3 _⟩
                    case measure => simp [intOf]; omega
                  · have hjm' : decide ((j : Int) < m) = false := by simpa using hjm
                    go_wp2
                    go_quiet (fail)
                    go_wp2
                    go_roundw
                    case rel => exact ⟨v + 1, by omega, by go_num, below_drewN hB _⟩
                    case measure => simp [intOf]; omega
              · skip
                go_wp2
                go_quiet (fail)
                clear a0 a1 c1 c2 c3 c4
                have hB2 := below_drewN hB nq
                generalize wp.drewN nq = wq at hB2 ⊢
                clear hB
                go_wp2
                go_loopw [10] (fun i wr => ∃ j : Nat, j ≤ m ∧ i = .int .i64 j ∧ Below w3.heap.size w3 wr) (fun i _ => m - (intOf i).toNat)
                case atStart => exact ⟨0, Nat.zero_le _, rfl, hB2⟩
                case round =>
                  clear hB2
                  obtain ⟨j, hj, rfl, hB⟩ := hrel
                  have c1 := (P3.next hB).cellAt hlt
                  have c2 := (P3.next hB).cellAt hlt2
                  have a0 := (kA3.next hB).cell 0
                  have a1 := (kA3.next hB).cell 1
                  by_cases hjm : j < m
                  · go_wp2
                    go_quiet (fail)
                    go_wp2
                    go_roundw
                    case rel => exact ⟨v + 1, by omega, by go_num, below_drewN hB _⟩
                    case measure => simp [intOf]; omega
                  · have hjm' : decide ((j : Int) < m) = false := by simpa using hjm
                    go_wp2
                    go_quiet (fail)
                    go_wp2
                    go_roundw
                    case rel => exact ⟨v + 1, by omega, by go_num, below_drewN hB _⟩
                    case measure => simp [intOf]; omega
          · go_wp2
            go_roundw
            case rel => exact ⟨u + 1, by omega, by go_num, hB⟩
            case measure => simp [intOf]; omega
      · go_wp2
        go_ret
        exact ⟨rfl, lo_trans H0 hB⟩
end Go.Proofs.Ytlhhafgfpmgbcaa
