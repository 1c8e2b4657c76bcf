/- The law FnExactWeightsFit walked. -/
import Derived.Test.YtlhhafgfpmgbcaaWg
import Derived.Test.YtlhhafgfpmgbcaaWe
import Derived.Deep.RegionHeld3
namespace Go.Proofs.Ytlhhafgfpmgbcaa
open Go.RowKit

set_option maxHeartbeats 2000000 in
theorem law_ExactWeightsFit (W : Int) (C : Option Addr) (l e : Nat) (A : Option Addr) (n c : Nat) (B : Option Addr) (m d : Nat) (xs p q : List Int) (w : World) (hx : Rd w C l xs) (hlb : l ≤ maxLen) (hp : Rd w A n p) (_ : n ≤ maxLen) (hq : Rd w B m q) (_ : m ≤ maxLen) :
    Calls Try.prog 4 #[.agg #[.int .i64 W, .slice C l e], .slice A n c, .slice B m d] w fun e w' => e = .returned (.bool true) ∧ Below w.heap.size w w' := by
  unfold maxLen at hlb
  by_cases h1 : 1048576 < n
  · go_enter Try.func4, Try.ntmps4
    go_wp2
    go_ret
    exact ⟨rfl, by (repeat (first | exact Below.refl _ _ | assumption | refine lo_alloc ?_ _ | refine lo_set ?_ (by simp; try omega) _ | refine Below.drew ?_ | refine below_drewN ?_ _ | refine lo_trans ?_ (by assumption) | refine lo_wr ?_ (by assumption) (by omega)))⟩
  by_cases h2 : 1048576 < m
  · go_enter Try.func4, Try.ntmps4
    go_wp2
    go_ret
    exact ⟨rfl, by (repeat (first | exact Below.refl _ _ | assumption | refine lo_alloc ?_ _ | refine lo_set ?_ (by simp; try omega) _ | refine Below.drew ?_ | refine below_drewN ?_ _ | refine lo_trans ?_ (by assumption) | refine lo_wr ?_ (by assumption) (by omega)))⟩
  go_enter Try.func4, Try.ntmps4
  go_wp2_with fail
  refine (szImage_c _ _ _ _ _ _ hlb (by omega) (by omega)).mono ?_
  rintro e w1 ⟨rfl, hb1⟩
  by_cases h3 : 1048576 < l
  · have h3' : (if (1048576 : Int) - l < 0 then (-1 : Int) else 1048576 - l) = -1 := if_pos (by omega)
    rw [h3']
    go_wp2
    go_ret
    exact ⟨rfl, by (repeat (first | exact Below.refl _ _ | assumption | refine lo_alloc ?_ _ | refine lo_set ?_ (by simp; try omega) _ | refine Below.drew ?_ | refine below_drewN ?_ _ | refine lo_trans ?_ (by assumption) | refine lo_wr ?_ (by assumption) (by omega)))⟩
  have h3' : (if (1048576 : Int) - l < 0 then (-1 : Int) else 1048576 - l) = 1048576 - l := if_neg (by omega)
  rw [h3']
  clear h3'
  have hkz : Blk w1 w.heap.size _ _ := (Blk.new w 32 #[.int .i64 W, .slice C l e]).next hb1
  have z0 := hkz.cell 0
  have z1 := hkz.cell 1
  go_wp2_with fail
  refine (toImage_c _ _ _ _ xs _ (hx.next (by (repeat (first | exact Below.refl _ _ | assumption | refine lo_alloc ?_ _ | refine lo_set ?_ (by simp; try omega) _ | refine Below.drew ?_ | refine below_drewN ?_ _ | refine lo_trans ?_ (by assumption) | refine lo_wr ?_ (by assumption) (by omega))))) (by omega)).mono ?_
  rintro e w2 ⟨g2, rfl, hb2, ho2, hg2, hz2⟩
  go_wp2_with fail
  refine (toIntS_c _ _ _ p _ (hp.next (by (repeat (first | exact Below.refl _ _ | assumption | refine lo_alloc ?_ _ | refine lo_set ?_ (by simp; try omega) _ | refine Below.drew ?_ | refine below_drewN ?_ _ | refine lo_trans ?_ (by assumption) | refine lo_wr ?_ (by assumption) (by omega))))) (by omega)).mono ?_
  rintro e w3 ⟨rfl, hb3, ho3, hz3⟩
  go_wp2_with fail
  refine (toIntS_c _ _ _ q _ (hq.next (by (repeat (first | exact Below.refl _ _ | assumption | refine lo_alloc ?_ _ | refine lo_set ?_ (by simp; try omega) _ | refine Below.drew ?_ | refine below_drewN ?_ _ | refine lo_trans ?_ (by assumption) | refine lo_wr ?_ (by assumption) (by omega))))) (by omega)).mono ?_
  rintro e w4 ⟨rfl, hb4, ho4, hz4⟩
  go_wp2_with fail
  refine (spec_WeightsFit_c _ _ _ _ _ _ _ _ _ _ xs p q _ (ho2.next (by (repeat (first | exact Below.refl _ _ | assumption | refine lo_alloc ?_ _ | refine lo_set ?_ (by simp; try omega) _ | refine Below.drew ?_ | refine below_drewN ?_ _ | refine lo_trans ?_ (by assumption) | refine lo_wr ?_ (by assumption) (by omega))))).rd (ho3.next hb4).rd ho4.rd (by omega) (by omega) (by omega)).mono ?_
  rintro e w5 ⟨rfl, hb5⟩
  have hs5 := hb5.size
  clear z0 z1
  have hkz5 : Blk w5 w.heap.size _ _ := hkz.next (by (repeat (first | exact Below.refl _ _ | assumption | refine lo_alloc ?_ _ | refine lo_set ?_ (by simp; try omega) _ | refine Below.drew ?_ | refine below_drewN ?_ _ | refine lo_trans ?_ (by assumption) | refine lo_wr ?_ (by assumption) (by omega))))
  have z0 := hkz5.cell 0
  have z1 := hkz5.cell 1
  go_wp2_with fail
  refine (toImage_c _ _ _ _ xs _ (hx.next (by (repeat (first | exact Below.refl _ _ | assumption | refine lo_alloc ?_ _ | refine lo_set ?_ (by simp; try omega) _ | refine Below.drew ?_ | refine below_drewN ?_ _ | refine lo_trans ?_ (by assumption) | refine lo_wr ?_ (by assumption) (by omega))))) (by omega)).mono ?_
  rintro e w6 ⟨g6, rfl, hb6, ho6, hg6, hz6⟩
  have hkA := Blk.new w6 24 #[.int .i64 W, .slice (some ⟨g6, 0, none⟩) l l]
  have hbA := lo_alloc (Below.refl w6.heap.size w6) (.cells #[.int .i64 W, .slice (some ⟨g6, 0, none⟩) l l] 24)
  have hbAz : w6.heap.size < (w6.alloc (.cells #[.int .i64 W, .slice (some ⟨g6, 0, none⟩) l l] 24)).heap.size := by simp
  go_wp2_with fail
  generalize w6.alloc (.cells #[.int .i64 W, .slice (some ⟨g6, 0, none⟩) l l] 24) = wA at hkA hbA hbAz z0 z1 ⊢
  clear z0 z1
  refine (toIntS_c _ _ _ p _ (hp.next (by (repeat (first | exact Below.refl _ _ | assumption | refine lo_alloc ?_ _ | refine lo_set ?_ (by simp; try omega) _ | refine Below.drew ?_ | refine below_drewN ?_ _ | refine lo_trans ?_ (by assumption) | refine lo_wr ?_ (by assumption) (by omega))))) (by omega)).mono ?_
  rintro e w7 ⟨rfl, hb7, ho7, hz7⟩
  go_wp2_with fail
  refine (toIntS_c _ _ _ q _ (hq.next (by (repeat (first | exact Below.refl _ _ | assumption | refine lo_alloc ?_ _ | refine lo_set ?_ (by simp; try omega) _ | refine Below.drew ?_ | refine below_drewN ?_ _ | refine lo_trans ?_ (by assumption) | refine lo_wr ?_ (by assumption) (by omega))))) (by omega)).mono ?_
  rintro e w8 ⟨rfl, hb8, ho8, hz8⟩
  have hkA8 : Blk w8 w6.heap.size _ _ := hkA.next (by (repeat (first | exact Below.refl _ _ | assumption | refine lo_alloc ?_ _ | refine lo_set ?_ (by simp; try omega) _ | refine Below.drew ?_ | refine below_drewN ?_ _ | refine lo_trans ?_ (by assumption) | refine lo_wr ?_ (by assumption) (by omega))))
  have a0 := hkA8.cell 0
  have a1 := hkA8.cell 1
  go_wp2_with fail
  refine (impl_WeightsFit_c _ _ _ _ _ _ _ _ _ _ xs p q _ (ho6.next (by (repeat (first | exact Below.refl _ _ | assumption | refine lo_alloc ?_ _ | refine lo_set ?_ (by simp; try omega) _ | refine Below.drew ?_ | refine below_drewN ?_ _ | refine lo_trans ?_ (by assumption) | refine lo_wr ?_ (by assumption) (by omega))))).rd (ho7.next hb8).rd ho8.rd (by omega) (by omega) (by omega)).mono ?_
  rintro e w9 ⟨rfl, hb9⟩
  have hs9 := hb9.size
  clear a0 a1
  have hkA9 : Blk w9 w6.heap.size _ _ := hkA8.next hb9
  have hkz9 : Blk w9 w.heap.size _ _ := hkz5.next (by (repeat (first | exact Below.refl _ _ | assumption | refine lo_alloc ?_ _ | refine lo_set ?_ (by simp; try omega) _ | refine Below.drew ?_ | refine below_drewN ?_ _ | refine lo_trans ?_ (by assumption) | refine lo_wr ?_ (by assumption) (by omega))))
  have a0 := hkA9.cell 0
  have a1 := hkA9.cell 1
  have z0 := hkz9.cell 0
  have z1 := hkz9.cell 1
  go_wp2_with fail
  have hx9 : Rd w9 C l xs := hx.next (by (repeat (first | exact Below.refl _ _ | assumption | refine lo_alloc ?_ _ | refine lo_set ?_ (by simp; try omega) _ | refine Below.drew ?_ | refine below_drewN ?_ _ | refine lo_trans ?_ (by assumption) | refine lo_wr ?_ (by assumption) (by omega))))
  have hA9 : Own w9 _ _ _ _ := ho6.next (by (repeat (first | exact Below.refl _ _ | assumption | refine lo_alloc ?_ _ | refine lo_set ?_ (by simp; try omega) _ | refine Below.drew ?_ | refine below_drewN ?_ _ | refine lo_trans ?_ (by assumption) | refine lo_wr ?_ (by assumption) (by omega))))
  go_region_held3 (fun w' => w'.cell? ⟨w.heap.size, 0, none⟩ = some (.int .i64 W) ∧ w'.cell? ⟨w.heap.size, 1, none⟩ = some (.slice C l e) ∧ w'.cell? ⟨w6.heap.size, 0, none⟩ = some (.int .i64 W) ∧ w'.cell? ⟨w6.heap.size, 1, none⟩ = some (.slice (some ⟨g6, 0, none⟩) l l))
    (first
      | go_keep
      | exact ⟨(hkz9.next (by (repeat (first | exact Below.refl _ _ | assumption | refine lo_alloc ?_ _ | refine lo_set ?_ (by simp; try omega) _ | refine Below.drew ?_ | refine below_drewN ?_ _ | refine lo_trans ?_ (by assumption) | refine lo_wr ?_ (by assumption) (by omega))))).cell 0, (hkz9.next (by (repeat (first | exact Below.refl _ _ | assumption | refine lo_alloc ?_ _ | refine lo_set ?_ (by simp; try omega) _ | refine Below.drew ?_ | refine below_drewN ?_ _ | refine lo_trans ?_ (by assumption) | refine lo_wr ?_ (by assumption) (by omega))))).cell 1, (hkA9.next (by (repeat (first | exact Below.refl _ _ | assumption | refine lo_alloc ?_ _ | refine lo_set ?_ (by simp; try omega) _ | refine Below.drew ?_ | refine below_drewN ?_ _ | refine lo_trans ?_ (by assumption) | refine lo_wr ?_ (by assumption) (by omega))))).cell 0, (hkA9.next (by (repeat (first | exact Below.refl _ _ | assumption | refine lo_alloc ?_ _ | refine lo_set ?_ (by simp; try omega) _ | refine Below.drew ?_ | refine below_drewN ?_ _ | refine lo_trans ?_ (by assumption) | refine lo_wr ?_ (by assumption) (by omega))))).cell 1⟩)
    (first
      | (go_at_call 20; refine (toImage_c _ _ _ _ xs _ (hx9.next (by (repeat (first | exact Below.refl _ _ | assumption | refine lo_alloc ?_ _ | refine lo_set ?_ (by simp; try omega) _ | refine Below.drew ?_ | refine below_drewN ?_ _ | refine lo_trans ?_ (by assumption) | refine lo_wr ?_ (by assumption) (by omega))))) (by omega)).mono ?_; rintro e w10 ⟨g10, rfl, hb10, ho10, hg10, hz10⟩)
      | (go_at_call 13; refine (eqImage_t _ _ _ _ _ _ _ xs _ (hA9.next (by (repeat (first | exact Below.refl _ _ | assumption | refine lo_alloc ?_ _ | refine lo_set ?_ (by simp; try omega) _ | refine Below.drew ?_ | refine below_drewN ?_ _ | refine lo_trans ?_ (by assumption) | refine lo_wr ?_ (by assumption) (by omega))))).rd (ho10.next (by (repeat (first | exact Below.refl _ _ | assumption | refine lo_alloc ?_ _ | refine lo_set ?_ (by simp; try omega) _ | refine Below.drew ?_ | refine below_drewN ?_ _ | refine lo_trans ?_ (by assumption) | refine lo_wr ?_ (by assumption) (by omega))))).rd (by omega)).mono ?_; rintro e w11 ⟨rfl, hb11⟩))
  have hs10 : w9.heap.size ≤ w10.heap.size := hb10.size
  have hs11 := hb11.size
  clear a0 a1 z0 z1
  go_wp2_with fail
  refine (toIntS_c _ _ _ p _ (hp.next (by (repeat (first | exact Below.refl _ _ | assumption | refine lo_alloc ?_ _ | refine lo_set ?_ (by simp; try omega) _ | refine Below.drew ?_ | refine below_drewN ?_ _ | refine lo_trans ?_ (by assumption) | refine lo_wr ?_ (by assumption) (by omega))))) (by omega)).mono ?_
  rintro e w12 ⟨rfl, hb12, ho12, hz12⟩
  go_wp2_with fail
  refine (eqIntS_t _ _ _ _ _ _ p _ (ho7.next (by (repeat (first | exact Below.refl _ _ | assumption | refine lo_alloc ?_ _ | refine lo_set ?_ (by simp; try omega) _ | refine Below.drew ?_ | refine below_drewN ?_ _ | refine lo_trans ?_ (by assumption) | refine lo_wr ?_ (by assumption) (by omega))))).rd ho12.rd (by omega)).mono ?_
  rintro e w13 ⟨rfl, hb13⟩
  have hs13 := hb13.size
  go_wp2_with fail
  refine (toIntS_c _ _ _ q _ (hq.next (by (repeat (first | exact Below.refl _ _ | assumption | refine lo_alloc ?_ _ | refine lo_set ?_ (by simp; try omega) _ | refine Below.drew ?_ | refine below_drewN ?_ _ | refine lo_trans ?_ (by assumption) | refine lo_wr ?_ (by assumption) (by omega))))) (by omega)).mono ?_
  rintro e w14 ⟨rfl, hb14, ho14, hz14⟩
  go_wp2_with fail
  refine (eqIntS_t _ _ _ _ _ _ q _ (ho8.next (by (repeat (first | exact Below.refl _ _ | assumption | refine lo_alloc ?_ _ | refine lo_set ?_ (by simp; try omega) _ | refine Below.drew ?_ | refine below_drewN ?_ _ | refine lo_trans ?_ (by assumption) | refine lo_wr ?_ (by assumption) (by omega))))).rd ho14.rd (by omega)).mono ?_
  rintro e w15 ⟨rfl, hb15⟩
  go_wp2
  go_ret
  exact ⟨rfl, by (repeat (first | exact Below.refl _ _ | assumption | refine lo_alloc ?_ _ | refine lo_set ?_ (by simp; try omega) _ | refine Below.drew ?_ | refine below_drewN ?_ _ | refine lo_trans ?_ (by assumption) | refine lo_wr ?_ (by assumption) (by omega)))⟩
end Go.Proofs.Ytlhhafgfpmgbcaa
