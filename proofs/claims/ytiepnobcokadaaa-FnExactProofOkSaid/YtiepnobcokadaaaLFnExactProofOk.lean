/- The law FnExactProofOk walked. -/
import Derived.Test.YtiepnobcokadaaaSl3
import Derived.Test.YtiepnobcokadaaaKb
import Derived.Deep.RegionHeld3
namespace Go.Proofs.Ytiepnobcokadaaa
open Go.RowKit
set_option maxRecDepth 100000

set_option maxHeartbeats 4000000 in
theorem law_ExactProofOk (A : Option Addr) (n c : Nat) (B : Option Addr) (m d : Nat) (t : Int) (p q : List Int) (w : World) (hp : Rd w A n p) (_ : n ≤ maxLen) (hq : Rd w B m q) (_ : m ≤ maxLen) (_ : -9223372036854775808 ≤ t ∧ t ≤ 9223372036854775807) :
    Calls Try.prog 3 #[.slice A n c, .slice B m d, .int .i64 t] w fun e w' => e = .returned (.bool true) ∧ Below w.heap.size w w' := by
  by_cases h1 : 1048576 < n
  · go_enter Try.func3, Try.ntmps3
    go_wp2
    go_ret
    exact ⟨rfl, by (repeat (first | exact Below.refl _ _ | assumption | refine lo_alloc ?_ _ | refine lo_set ?_ (by simp; try omega) _ | refine Below.drew ?_ | refine below_drewN ?_ _ | refine lo_trans ?_ (by assumption) | refine lo_wr ?_ (by assumption) (by omega)))⟩
  by_cases h2 : 1048576 < m
  · go_enter Try.func3, Try.ntmps3
    go_wp2
    go_ret
    exact ⟨rfl, by (repeat (first | exact Below.refl _ _ | assumption | refine lo_alloc ?_ _ | refine lo_set ?_ (by simp; try omega) _ | refine Below.drew ?_ | refine below_drewN ?_ _ | refine lo_trans ?_ (by assumption) | refine lo_wr ?_ (by assumption) (by omega)))⟩
  go_enter Try.func3, Try.ntmps3
  go_wp2_with fail
  refine (toIntS_c _ _ _ p _ hp (by omega)).mono ?_
  rintro e w1 ⟨rfl, hb1, ho1, hz1⟩
  go_wp2_with fail
  refine (toIntS_c _ _ _ q _ (hq.next (by (repeat (first | exact Below.refl _ _ | assumption | refine lo_alloc ?_ _ | refine lo_set ?_ (by simp; try omega) _ | refine Below.drew ?_ | refine below_drewN ?_ _ | refine lo_trans ?_ (by assumption) | refine lo_wr ?_ (by assumption) (by omega))))) (by omega)).mono ?_
  rintro e w2 ⟨rfl, hb2, ho2, hz2⟩
  go_wp2_with fail
  refine (spec_ProofOk_c _ _ _ _ _ _ t p q _ (ho1.next hb2).rd ho2.rd (by omega) (by omega)).mono ?_
  rintro e w3 ⟨rfl, hb3⟩
  have hs3 := hb3.size
  go_wp2_with fail
  refine (toIntS_c _ _ _ p _ (hp.next (by (repeat (first | exact Below.refl _ _ | assumption | refine lo_alloc ?_ _ | refine lo_set ?_ (by simp; try omega) _ | refine Below.drew ?_ | refine below_drewN ?_ _ | refine lo_trans ?_ (by assumption) | refine lo_wr ?_ (by assumption) (by omega))))) (by omega)).mono ?_
  rintro e w4 ⟨rfl, hb4, ho4, hz4⟩
  go_wp2_with fail
  refine (toIntS_c _ _ _ q _ (hq.next (by (repeat (first | exact Below.refl _ _ | assumption | refine lo_alloc ?_ _ | refine lo_set ?_ (by simp; try omega) _ | refine Below.drew ?_ | refine below_drewN ?_ _ | refine lo_trans ?_ (by assumption) | refine lo_wr ?_ (by assumption) (by omega))))) (by omega)).mono ?_
  rintro e w5 ⟨rfl, hb5, ho5, hz5⟩
  go_wp2_with fail
  refine (impl_ProofOk_c _ _ _ _ _ _ t p q _ (ho4.next hb5).rd ho5.rd (by omega) (by omega)).mono ?_
  rintro e w6 ⟨rfl, hb6⟩
  have hs6 := hb6.size

  go_wp2_with fail
  refine (toIntS_c _ _ _ p _ (hp.next (by (repeat (first | exact Below.refl _ _ | assumption | refine lo_alloc ?_ _ | refine lo_set ?_ (by simp; try omega) _ | refine Below.drew ?_ | refine below_drewN ?_ _ | refine lo_trans ?_ (by assumption) | refine lo_wr ?_ (by assumption) (by omega))))) (by omega)).mono ?_
  rintro e w7 ⟨rfl, hb7, ho7, hz7⟩
  go_wp2_with fail
  refine (eqIntS_t _ _ _ _ _ _ p _ (ho4.next (by (repeat (first | exact Below.refl _ _ | assumption | refine lo_alloc ?_ _ | refine lo_set ?_ (by simp; try omega) _ | refine Below.drew ?_ | refine below_drewN ?_ _ | refine lo_trans ?_ (by assumption) | refine lo_wr ?_ (by assumption) (by omega))))).rd ho7.rd (by omega)).mono ?_
  rintro e w8 ⟨rfl, hb8⟩
  have hs8 := hb8.size
  go_wp2_with fail
  refine (toIntS_c _ _ _ q _ (hq.next (by (repeat (first | exact Below.refl _ _ | assumption | refine lo_alloc ?_ _ | refine lo_set ?_ (by simp; try omega) _ | refine Below.drew ?_ | refine below_drewN ?_ _ | refine lo_trans ?_ (by assumption) | refine lo_wr ?_ (by assumption) (by omega))))) (by omega)).mono ?_
  rintro e w9 ⟨rfl, hb9, ho9, hz9⟩
  go_wp2_with fail
  refine (eqIntS_t _ _ _ _ _ _ q _ (ho5.next (by (repeat (first | exact Below.refl _ _ | assumption | refine lo_alloc ?_ _ | refine lo_set ?_ (by simp; try omega) _ | refine Below.drew ?_ | refine below_drewN ?_ _ | refine lo_trans ?_ (by assumption) | refine lo_wr ?_ (by assumption) (by omega))))).rd ho9.rd (by omega)).mono ?_
  rintro e w10 ⟨rfl, hb10⟩
  go_wp2
  go_ret
  exact ⟨rfl, by (repeat (first | exact Below.refl _ _ | assumption | refine lo_alloc ?_ _ | refine lo_set ?_ (by simp; try omega) _ | refine Below.drew ?_ | refine below_drewN ?_ _ | refine lo_trans ?_ (by assumption) | refine lo_wr ?_ (by assumption) (by omega)))⟩
end Go.Proofs.Ytiepnobcokadaaa
