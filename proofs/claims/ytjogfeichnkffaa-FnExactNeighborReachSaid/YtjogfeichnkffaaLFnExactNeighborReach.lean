/- The law FnExactNeighborReach walked. -/
import Derived.Test.YtjogfeichnkffaaNr
import Derived.Deep.RegionHeld3
namespace Go.Proofs.Ytjogfeichnkffaa
open Go.RowKit
set_option maxRecDepth 100000

set_option maxHeartbeats 4000000 in
theorem law_ExactNeighborReach (W : Int) (C : Option Addr) (l e : Nat) (xs : List Int) (w : World) (hx : Rd w C l xs) (hlb : l ≤ maxLen) :
    Calls Try.prog 3 #[.agg #[.int .i64 W, .slice C l e]] w fun e w' => e = .returned (.bool true) ∧ Below w.heap.size w w' := by
  unfold maxLen at hlb
  go_enter Try.func3, Try.ntmps3
  go_wp2_with fail
  refine (szImage_c _ _ _ _ _ _ hlb (by omega) (by omega)).mono ?_
  rintro e w1 ⟨rfl, hb1⟩
  by_cases h3 : 1048576 < l
  · have h3' : (if (1048576 : Int) - l < 0 then (-1 : Int) else 1048576 - l) = -1 := if_pos (by omega)
    rw [h3']
    go_wp2
    go_ret
    exact ⟨rfl, by (repeat (first | exact Below.refl _ _ | assumption | refine lo_alloc ?_ _ | refine lo_set ?_ (by simp; try omega) _ | refine Below.drew ?_ | refine below_drewN ?_ _ | refine lo_trans ?_ (by assumption) | refine lo_wr ?_ (by assumption) (by omega)))⟩
  have h3' : (if (1048576 : Int) - l < 0 then (-1 : Int) else 1048576 - l) = 1048576 - l := if_neg (by omega)
  rw [h3']
  clear h3'
  have hkz : Blk w1 w.heap.size _ _ := (Blk.new w 24 #[.int .i64 W, .slice C l e]).next hb1
  have hb1' : Below w.heap.size w w1 := by (repeat (first | exact Below.refl _ _ | assumption | refine lo_alloc ?_ _ | refine lo_set ?_ (by simp; try omega) _ | refine Below.drew ?_ | refine below_drewN ?_ _ | refine lo_trans ?_ (by assumption) | refine lo_wr ?_ (by assumption) (by omega)))
  have hx1 : Rd w1 C l xs := hx.next hb1'
  have z0 := hkz.cell 0
  have z1 := hkz.cell 1
  generalize hv : reachW W xs = v
  have hv' := Lib.hid hv
  clear hv
  go_wp2_with fail
  refine (toImage_c _ _ _ _ xs _ hx1 (by omega)).mono ?_
  rintro e w2 ⟨g2, rfl, hb2, ho2, hg2, hz2⟩
  go_wp2_with fail
  refine (spec_NeighborReach_c _ _ _ _ xs _ ho2.rd (by omega)).mono ?_
  rw [hv'.out]
  rintro e w3 ⟨rfl, hb3⟩
  have hB3 : Below w.heap.size w w3 := lo_trans (lo_trans hb1' hb2) hb3
  have hx3 : Rd w3 C l xs := hx.next hB3
  have hkz3 : Blk w3 w.heap.size _ _ := (hkz.next hb2).next hb3
  clear z0 z1 hb1 hb2 hb3 ho2 hkz hx1
  have z0 := hkz3.cell 0
  have z1 := hkz3.cell 1
  go_wp2_with fail
  refine (toImage_c _ _ _ _ xs _ hx3 (by omega)).mono ?_
  rintro e w4 ⟨g4, rfl, hb4, ho4, hg4, hz4⟩
  have hkA := Blk.new w4 27 #[.int .i64 W, .slice (some ⟨g4, 0, none⟩) l l]
  have hbA := lo_alloc (Below.refl w4.heap.size w4) (.cells #[.int .i64 W, .slice (some ⟨g4, 0, none⟩) l l] 27)
  go_wp2_with fail
  generalize w4.alloc (.cells #[.int .i64 W, .slice (some ⟨g4, 0, none⟩) l l] 27) = wA at hkA hbA ⊢
  have h3A : Below w3.heap.size w3 wA := lo_trans hb4 hbA
  have hoA : Own wA w3.heap.size (some ⟨g4, 0, none⟩) l xs := ho4.next hbA
  refine (impl_NeighborReach_c _ _ _ _ xs _ hoA.rd (by omega)).mono ?_
  rw [hv'.out]
  rintro e w5 ⟨rfl, hb5⟩
  have h35 : Below w3.heap.size w3 w5 := lo_trans h3A hb5
  have hkA6 : Blk w5 w4.heap.size _ _ := hkA.next hb5
  have hkz6 : Blk w5 w.heap.size _ _ := hkz3.next h35
  have hx6 : Rd w5 C l xs := hx3.next h35
  have ho6 : Own w5 w3.heap.size (some ⟨g4, 0, none⟩) l xs := hoA.next hb5
  clear hkA hoA hbA z0 z1 h3A hb4 hb5
  have a0 := hkA6.cell 0
  have a1 := hkA6.cell 1
  have z0 := hkz6.cell 0
  have z1 := hkz6.cell 1
  go_wp2_with fail
  go_region_held3 (fun w' => w'.cell? ⟨w.heap.size, 0, none⟩ = some (.int .i64 W) ∧ w'.cell? ⟨w.heap.size, 1, none⟩ = some (.slice C l e) ∧ w'.cell? ⟨w4.heap.size, 0, none⟩ = some (.int .i64 W) ∧ w'.cell? ⟨w4.heap.size, 1, none⟩ = some (.slice (some ⟨g4, 0, none⟩) l l))
    (first
      | go_keep
      | exact ⟨(hkz6.next (by (repeat (first | exact Below.refl _ _ | assumption | refine lo_alloc ?_ _ | refine lo_set ?_ (by simp; try omega) _ | refine Below.drew ?_ | refine below_drewN ?_ _ | refine lo_trans ?_ (by assumption) | refine lo_wr ?_ (by assumption) (by omega))))).cell 0, (hkz6.next (by (repeat (first | exact Below.refl _ _ | assumption | refine lo_alloc ?_ _ | refine lo_set ?_ (by simp; try omega) _ | refine Below.drew ?_ | refine below_drewN ?_ _ | refine lo_trans ?_ (by assumption) | refine lo_wr ?_ (by assumption) (by omega))))).cell 1, (hkA6.next (by (repeat (first | exact Below.refl _ _ | assumption | refine lo_alloc ?_ _ | refine lo_set ?_ (by simp; try omega) _ | refine Below.drew ?_ | refine below_drewN ?_ _ | refine lo_trans ?_ (by assumption) | refine lo_wr ?_ (by assumption) (by omega))))).cell 0, (hkA6.next (by (repeat (first | exact Below.refl _ _ | assumption | refine lo_alloc ?_ _ | refine lo_set ?_ (by simp; try omega) _ | refine Below.drew ?_ | refine below_drewN ?_ _ | refine lo_trans ?_ (by assumption) | refine lo_wr ?_ (by assumption) (by omega))))).cell 1⟩)
    (first
      | (go_at_call 11; refine (toImage_c _ _ _ _ xs _ (hx6.next (by (repeat (first | exact Below.refl _ _ | assumption | refine lo_alloc ?_ _ | refine lo_set ?_ (by simp; try omega) _ | refine Below.drew ?_ | refine below_drewN ?_ _ | refine lo_trans ?_ (by assumption) | refine lo_wr ?_ (by assumption) (by omega))))) (by omega)).mono ?_; rintro e w10 ⟨g10, rfl, hb10, ho10, hg10, hz10⟩)
      | (go_at_call 13; refine (eqImage_t _ _ _ _ _ _ _ xs _ (ho6.next (by (repeat (first | exact Below.refl _ _ | assumption | refine lo_alloc ?_ _ | refine lo_set ?_ (by simp; try omega) _ | refine Below.drew ?_ | refine below_drewN ?_ _ | refine lo_trans ?_ (by assumption) | refine lo_wr ?_ (by assumption) (by omega))))).rd (ho10.next (by (repeat (first | exact Below.refl _ _ | assumption | refine lo_alloc ?_ _ | refine lo_set ?_ (by simp; try omega) _ | refine Below.drew ?_ | refine below_drewN ?_ _ | refine lo_trans ?_ (by assumption) | refine lo_wr ?_ (by assumption) (by omega))))).rd (by omega)).mono ?_; rintro e w11 ⟨rfl, hb11⟩))
  have h6b : Below w5.heap.size w5 w11 := by (repeat (first | exact Below.refl _ _ | assumption | refine lo_alloc ?_ _ | refine lo_set ?_ (by simp; try omega) _ | refine Below.drew ?_ | refine below_drewN ?_ _ | refine lo_trans ?_ (by assumption) | refine lo_wr ?_ (by assumption) (by omega)))
  have h311 := lo_trans hB3 (lo_trans h35 h6b)
  go_wp2
  go_ret
  exact ⟨rfl, h311⟩
end Go.Proofs.Ytjogfeichnkffaa
