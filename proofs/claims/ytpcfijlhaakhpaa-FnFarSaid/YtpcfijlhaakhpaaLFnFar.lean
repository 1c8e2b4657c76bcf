/- The law FnFar walked. -/
import Derived.Test.YtpcfijlhaakhpaaMathV
import Derived.Test.YtpcfijlhaakhpaaPa
import Derived.Test.YtpcfijlhaakhpaaKm
namespace Go.Proofs.Ytpcfijlhaakhpaa
open Go.RowKit
set_option maxRecDepth 100000

set_option maxHeartbeats 8000000 in
theorem law_Far (A : Option Addr) (n c : Nat) (w : World) (hr : RdB w A n) (hb : n ≤ maxLen ∧ n ≤ c) :
    Calls Try.prog 8 #[.slice A n c] w fun e w' => e = .returned (.bool true) ∧ Below w.heap.size w w' := by
  by_cases h1 : 1048576 < n
  · go_enter Try.func8, Try.ntmps8
    go_wp2
    go_ret
    exact ⟨rfl, by (repeat (first | exact Below.refl _ _ | assumption | refine lo_alloc ?_ _ | refine lo_set ?_ (by simp; try omega) _ | refine Below.drew ?_ | refine below_drewN ?_ _ | refine lo_trans ?_ (by assumption) | refine lo_wr ?_ (by assumption) (by omega)))⟩
  have g1 : decide ((1048576 : Int) < (n : Int)) = false := by simp; omega
  go_enter Try.func8, Try.ntmps8
  go_wp2_with fail
  refine (DrawNeighborFar_c A n c _ hr (by omega) hb.2).mono ?_
  rintro e w1 ⟨W, X, x, x', xs, V, Y, y, y', ys, rfl, hx6, hy6, hX, hY, hb1⟩
  have hs1 := hb1.size
  clear hb
  obtain ⟨oa, hoa⟩ : ∃ oa, oa = w1.heap.size := ⟨_, rfl⟩
  obtain ⟨wA, hwA⟩ : ∃ wA, wA = (w1.alloc (.cells #[.int .i64 W, .slice X x x'] 25)).alloc (.cells #[.int .i64 V, .slice Y y y'] 25) := ⟨_, rfl⟩
  have hkA : Blk wA oa 25 #[.int .i64 W, .slice X x x'] := by rw [hwA, hoa]; exact (Blk.new w1 _ _).alloc _
  have hkB : Blk wA (oa + 1) 25 #[.int .i64 V, .slice Y y y'] := by rw [hwA, hoa]; exact heap_at2 w1 _ _ _
  have hXA : Rd wA X x xs := by rw [hwA]; exact (hX.alloc _).alloc _
  have hYA : Rd wA Y y ys := by rw [hwA]; exact (hY.alloc _).alloc _
  have hBA : Below w.heap.size w wA := by rw [hwA]; exact lo_alloc (lo_alloc hb1 _) _
  clear hX hY hb1
  generalize hv : farW W xs V ys = v
  have hv' := Lib.hid hv
  clear hv
  go_wp2_with fail
  rw [← hoa, ← hwA]
  have hoa' := Lib.hid hoa; clear hoa
  have hwA' := Lib.hid hwA; clear hwA
  refine (impl_NeighborFar_c _ _ _ _ xs _ _ _ _ ys _ hXA (by omega) hYA (by omega)).mono ?_
  rw [hv'.out]
  rintro e w2 ⟨rfl, hb2⟩
  have hkA2 := hkA.next hb2
  have hkB2 := hkB.next hb2
  have hX2 := hXA.next hb2
  have hY2 := hYA.next hb2
  have a0 := hkA2.cell 0
  have a1 := hkA2.cell 1
  have c0 := hkB2.cell 0
  have c1 := hkB2.cell 1
  go_wp2_with fail
  refine (spec_NeighborFar_c _ _ _ _ xs _ _ _ _ ys _ hX2 (by omega) hY2 (by omega)).mono ?_
  rw [hv'.out]
  rintro e w3 ⟨rfl, hb3⟩
  have hkA3 := hkA2.next hb3
  have hkB3 := hkB2.next hb3
  have hX3 := hX2.next hb3
  have hY3 := hY2.next hb3
  have hB3 : Below w.heap.size w w3 := lo_trans (lo_trans hBA hb2) hb3
  clear a0 a1 c0 c1 hkA hkA2 hkB hkB2 hXA hYA hX2 hY2 hBA hb2 hb3
  by_cases hv0 : v < 0
  · go_wp2
    go_ret
    exact ⟨rfl, hB3⟩
  obtain ⟨m, rfl, rfl, hk, hj, hl, hc, hvl⟩ := farW_ge (show 0 ≤ farW W xs V ys by rw [hv'.out]; omega)
  rw [hv'.out] at hvl
  have hk' := Lib.hid hk
  have hj' := Lib.hid hj
  have hbd := okB_bd hk
  have hxl : xs.length = x := hX3.1
  have hyl : ys.length = y := hY3.1
  obtain rfl : x = y := by omega
  have hv0' : 0 ≤ farW (m : Int) xs (m : Int) ys := by rw [hv'.out]; omega
  have hsm := Lib.hid ((far_same hk hj hl hc).1 hv0')
  obtain ⟨k1, k2, k3⟩ := far_bound hk hj hl hc hv0'
  rw [hv'.out] at k1 k2 k3
  have hdi := Lib.hid (show distW (m : Int) xs (m : Int) ys = (distX xs ys : Int) by rw [distW, if_pos (sizeB_mk hk hj hl)])
  have hD := distX_le (ys := ys) hk
  have k2' := Lib.hid k2
  rw [hxl] at hbd
  clear hvl hv' hk hj hl hc hxl hyl k2
  have a0 := hkA3.cell 0
  have a1 := hkA3.cell 1
  have c0 := hkB3.cell 0
  have c1 := hkB3.cell 1
  go_wp2_with fail
  refine (SwitchPath_c m x _ _ _ _ xs ys _ hX3 hY3 hk'.out hj'.out hsm.out).mono ?_
  rintro e w4 ⟨hb4, R, cR, k, rfl, hpath, hend⟩
  have k4 : v ≤ (k : Int) := k2'.out k hpath
  have k5 : (k : Int) ≤ 36 := by
    rcases hend with ⟨_, rfl⟩ | h
    · omega
    · omega
  have hkA4 := hkA3.next hb4
  have hkB4 := hkB3.next hb4
  have hX4 := hX3.next hb4
  have hY4 := hY3.next hb4
  have hB4 := lo_trans hB3 hb4
  clear a0 a1 c0 c1 hkA3 hkB3 hX3 hY3 hB3 hb4 hend hpath k2'
  have a0 := hkA4.cell 0
  have a1 := hkA4.cell 1
  have c0 := hkB4.cell 0
  have c1 := hkB4.cell 1
  go_wp2_with fail
  refine (ImageDistance_c _ _ _ _ xs _ _ _ _ ys _ hX4 (by omega) hY4 (by omega)).mono ?_
  rw [hdi.out]
  rintro e w5 ⟨rfl, hb5⟩
  have hkA5 := hkA4.next hb5
  have hkB5 := hkB4.next hb5
  have hX5 := hX4.next hb5
  have hY5 := hY4.next hb5
  have hB5 := lo_trans hB4 hb5
  clear a0 a1 c0 c1 hkA4 hkB4 hX4 hY4 hB4 hb5
  have a0 := hkA5.cell 0
  have a1 := hkA5.cell 1
  have c0 := hkB5.cell 0
  have c1 := hkB5.cell 1
  obtain ⟨dd, hdd⟩ : ∃ dd, dd = distX xs ys := ⟨_, rfl⟩
  rw [← hdd] at k1 k3 hD ⊢
  have hdd' := Lib.hid hdd
  clear hdd
  rcases k3 with ⟨z1, z2⟩ | z3
  · subst z1
    subst z2
    go_wp2_with fail
    refine (SumsSame_c _ _ _ _ xs _ _ _ _ ys _ hX5 (by omega) hY5 (by omega)).mono ?_
    rw [hsm.out]
    rintro e w6 ⟨rfl, hb6⟩
    go_wp2
    go_ret
    exact ⟨ret_bool (by simp), lo_trans hB5 hb6⟩
  · have z4 : (((dd : Nat) : Int) == 0) = false := beq_eq_false_iff_ne.2 (by omega)
    go_wp2_with fail
    refine (SumsSame_c _ _ _ _ xs _ _ _ _ ys _ hX5 (by omega) hY5 (by omega)).mono ?_
    rw [hsm.out]
    rintro e w6 ⟨rfl, hb6⟩
    go_wp2
    go_ret
    exact ⟨ret_bool (by simp; omega), lo_trans hB5 hb6⟩
end Go.Proofs.Ytpcfijlhaakhpaa
