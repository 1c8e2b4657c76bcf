/- The law FnFarTurn walked. -/
import Derived.Test.YtjogfeichnkffaaMathR
import Derived.Test.YtjogfeichnkffaaDq
namespace Go.Proofs.Ytjogfeichnkffaa
open Go.RowKit
set_option maxRecDepth 100000

set_option maxHeartbeats 8000000 in
theorem law_FarTurn (A : Option Addr) (n c : Nat) (w : World) (hr : RdB w A n) (hb : n ≤ maxLen ∧ n ≤ c) :
    Calls Try.prog 8 #[.slice A n c] w fun e w' => e = .returned (.bool true) ∧ Below w.heap.size w w' := by
  by_cases h1 : 1048576 < n
  · go_enter Try.func8, Try.ntmps8
    go_wp2
    go_ret
    exact ⟨rfl, by (repeat (first | exact Below.refl _ _ | assumption | refine lo_alloc ?_ _ | refine lo_set ?_ (by simp; try omega) _ | refine Below.drew ?_ | refine below_drewN ?_ _ | refine lo_trans ?_ (by assumption) | refine lo_wr ?_ (by assumption) (by omega)))⟩
  have g1 : decide ((1048576 : Int) < (n : Int)) = false := by simp; omega
  go_enter Try.func8, Try.ntmps8
  go_wp2_with fail
  refine (DrawNeighborFar_c A n c _ hr (by omega) hb.2).mono ?_
  rintro e w1 ⟨W, X, x, x', xs, V, Y, y, y', ys, rfl, hx6, hy6, hX, hY, hb1⟩
  have hs1 := hb1.size
  clear hb
  obtain ⟨oa, hoa⟩ : ∃ oa, oa = w1.heap.size := ⟨_, rfl⟩
  obtain ⟨wA, hwA⟩ : ∃ wA, wA = (w1.alloc (.cells #[.int .i64 W, .slice X x x'] 27)).alloc (.cells #[.int .i64 V, .slice Y y y'] 27) := ⟨_, rfl⟩
  have hkA : Blk wA oa 27 #[.int .i64 W, .slice X x x'] := by rw [hwA, hoa]; exact (Blk.new w1 _ _).alloc _
  have hkB : Blk wA (oa + 1) 27 #[.int .i64 V, .slice Y y y'] := by rw [hwA, hoa]; exact heap_at2 w1 _ _ _
  have hXA : Rd wA X x xs := by rw [hwA]; exact (hX.alloc _).alloc _
  have hYA : Rd wA Y y ys := by rw [hwA]; exact (hY.alloc _).alloc _
  have hBA : Below w.heap.size w wA := by rw [hwA]; exact lo_alloc (lo_alloc hb1 _) _
  clear hX hY hb1
  generalize hv : farW W xs V ys = v
  have hv' := Lib.hid hv
  clear hv
  go_wp2_with fail
  rw [← hoa, ← hwA]
  have hoa' := Lib.hid hoa; clear hoa
  have hwA' := Lib.hid hwA; clear hwA
  refine (impl_NeighborFar_c _ _ _ _ xs _ _ _ _ ys _ hXA (by omega) hYA (by omega)).mono ?_
  rw [hv'.out]
  rintro e w2 ⟨rfl, hb2⟩
  have hkA2 := hkA.next hb2
  have hkB2 := hkB.next hb2
  have hX2 := hXA.next hb2
  have hY2 := hYA.next hb2
  have a0 := hkA2.cell 0
  have a1 := hkA2.cell 1
  have c0 := hkB2.cell 0
  have c1 := hkB2.cell 1
  go_wp2_with fail
  refine (spec_NeighborFar_c _ _ _ _ xs _ _ _ _ ys _ hX2 (by omega) hY2 (by omega)).mono ?_
  rw [hv'.out]
  rintro e w3 ⟨rfl, hb3⟩
  have hkA3 := hkA2.next hb3
  have hkB3 := hkB2.next hb3
  have hX3 := hX2.next hb3
  have hY3 := hY2.next hb3
  have hB3 : Below w.heap.size w w3 := lo_trans (lo_trans hBA hb2) hb3
  clear a0 a1 c0 c1 hkA hkA2 hkB hkB2 hXA hYA hX2 hY2 hBA hb2 hb3
  by_cases hv0 : v < 0
  · go_wp2
    go_ret
    exact ⟨rfl, hB3⟩
  obtain ⟨m, rfl, rfl, hk, hj, hl, hc, hvl⟩ := farW_ge (show 0 ≤ farW W xs V ys by rw [hv'.out]; omega)
  rw [hv'.out] at hvl
  have hk' := Lib.hid hk
  have hj' := Lib.hid hj
  have hbd := okB_bd hk
  have htx := Lib.hid (turn_is hk)
  have hty := Lib.hid (turn_is hj)
  have hox := Lib.hid (other_is hk)
  have hoy := Lib.hid (other_is hj)
  have hft := Lib.hid (farW_turn hk hj hl hc)
  have hfo := Lib.hid (farW_other hk hj hl hc)
  rw [← hvl] at hft hfo
  have hxl : xs.length = x := hX3.1
  have hyl : ys.length = y := hY3.1
  rw [hxl] at htx hft hbd
  rw [hyl] at hty hft
  clear hvl hv' hk hj hl hc hxl hyl
  have a0 := hkA3.cell 0
  have a1 := hkA3.cell 1
  go_wp2_with fail
  refine (ImageTurn_c _ _ _ _ xs _ hX3 (by omega)).mono ?_
  rw [hk'.out, htx.out.1, htx.out.2]
  rintro e w4 ⟨R4, r4, k4, rfl, hb4, ho4⟩
  have hr4 : r4 ≤ 6 := by rw [← ho4.1, turnL_len]; omega
  have hb4' : Below w3.heap.size w3 (w4.alloc (.cells #[.int .i64 (x : Int), .slice R4 r4 k4] 27)) := lo_alloc hb4 _
  have hq4 : Blk (w4.alloc (.cells #[.int .i64 (x : Int), .slice R4 r4 k4] 27)) w4.heap.size 27 #[.int .i64 (x : Int), .slice R4 r4 k4] := Blk.new _ _ _
  have hR4 : Rd (w4.alloc (.cells #[.int .i64 (x : Int), .slice R4 r4 k4] 27)) R4 r4 (turnL m xs) := (ho4.alloc _).rd
  have hkA4 := hkA3.next hb4'
  have hkB4 := hkB3.next hb4'
  have hX4 := hX3.next hb4'
  have hY4 := hY3.next hb4'
  have hB4 := lo_trans hB3 hb4'
  clear a0 a1 hkA3 hkB3 hX3 hY3 hB3 hb4 ho4 hb4'
  have c0 := hkB4.cell 0
  have c1 := hkB4.cell 1
  go_wp2_with fail
  generalize w4.alloc (.cells #[.int .i64 (x : Int), .slice R4 r4 k4] 27) = wB at *
  refine (ImageTurn_c _ _ _ _ ys _ hY4 (by omega)).mono ?_
  rw [hj'.out, hty.out.1, hty.out.2]
  rintro e w5 ⟨R5, r5, k5, rfl, hb5, ho5⟩
  have hr5 : r5 ≤ 6 := by rw [← ho5.1, turnL_len]; omega
  have hb5' : Below wB.heap.size wB (w5.alloc (.cells #[.int .i64 (y : Int), .slice R5 r5 k5] 27)) := lo_alloc hb5 _
  have hq5 : Blk (w5.alloc (.cells #[.int .i64 (y : Int), .slice R5 r5 k5] 27)) w5.heap.size 27 #[.int .i64 (y : Int), .slice R5 r5 k5] := Blk.new _ _ _
  have hR5 : Rd (w5.alloc (.cells #[.int .i64 (y : Int), .slice R5 r5 k5] 27)) R5 r5 (turnL m ys) := (ho5.alloc _).rd
  have hkA5 := hkA4.next hb5'
  have hkB5 := hkB4.next hb5'
  have hX5 := hX4.next hb5'
  have hY5 := hY4.next hb5'
  have hB5 := lo_trans hB4 hb5'
  have hq45 := hq4.next hb5'
  have hR45 := hR4.next hb5'
  clear c0 c1 hkA4 hkB4 hX4 hY4 hB4 hb5 ho5 hb5' hq4 hR4
  have a0 := hkA5.cell 0
  have a1 := hkA5.cell 1
  go_wp2_with fail
  generalize w5.alloc (.cells #[.int .i64 (y : Int), .slice R5 r5 k5] 27) = wC at *
  refine (ImageOther_c _ _ _ _ xs _ hX5 (by omega)).mono ?_
  rw [hk'.out, hox.out.1, hox.out.2]
  rintro e w6 ⟨R6, r6, k6, rfl, hb6, ho6⟩
  have hr6 : r6 ≤ 6 := by rw [← ho6.1, otherL_len, hX5.1]; omega
  have hb6' : Below wC.heap.size wC (w6.alloc (.cells #[.int .i64 (m : Int), .slice R6 r6 k6] 27)) := lo_alloc hb6 _
  have hq6 : Blk (w6.alloc (.cells #[.int .i64 (m : Int), .slice R6 r6 k6] 27)) w6.heap.size 27 #[.int .i64 (m : Int), .slice R6 r6 k6] := Blk.new _ _ _
  have hR6 : Rd (w6.alloc (.cells #[.int .i64 (m : Int), .slice R6 r6 k6] 27)) R6 r6 (otherL m xs) := (ho6.alloc _).rd
  have hkB6 := hkB5.next hb6'
  have hY6 := hY5.next hb6'
  have hB6 := lo_trans hB5 hb6'
  have hq46 := hq45.next hb6'
  have hR46 := hR45.next hb6'
  have hq56 := hq5.next hb6'
  have hR56 := hR5.next hb6'
  clear a0 a1 hkA5 hkB5 hX5 hY5 hB5 hb6 ho6 hb6' hq45 hR45 hq5 hR5
  have c0 := hkB6.cell 0
  have c1 := hkB6.cell 1
  go_wp2_with fail
  generalize w6.alloc (.cells #[.int .i64 (m : Int), .slice R6 r6 k6] 27) = wD at *
  refine (ImageOther_c _ _ _ _ ys _ hY6 (by omega)).mono ?_
  rw [hj'.out, hoy.out.1, hoy.out.2]
  rintro e w7 ⟨R7, r7, k7, rfl, hb7, ho7⟩
  have hr7 : r7 ≤ 6 := by rw [← ho7.1, otherL_len, hY6.1]; omega
  have hb7' : Below wD.heap.size wD (w7.alloc (.cells #[.int .i64 (m : Int), .slice R7 r7 k7] 27)) := lo_alloc hb7 _
  have hq7 : Blk (w7.alloc (.cells #[.int .i64 (m : Int), .slice R7 r7 k7] 27)) w7.heap.size 27 #[.int .i64 (m : Int), .slice R7 r7 k7] := Blk.new _ _ _
  have hR7 : Rd (w7.alloc (.cells #[.int .i64 (m : Int), .slice R7 r7 k7] 27)) R7 r7 (otherL m ys) := (ho7.alloc _).rd
  have hB7 := lo_trans hB6 hb7'
  have hq47 := hq46.next hb7'
  have hR47 := hR46.next hb7'
  have hq57 := hq56.next hb7'
  have hR57 := hR56.next hb7'
  have hq67 := hq6.next hb7'
  have hR67 := hR6.next hb7'
  clear c0 c1 hkB6 hY6 hB6 hb7 ho7 hb7' hq46 hR46 hq56 hR56 hq6 hR6
  have a0 := hq47.cell 0
  have a1 := hq47.cell 1
  have c0 := hq57.cell 0
  have c1 := hq57.cell 1
  go_wp2_with fail
  generalize w7.alloc (.cells #[.int .i64 (m : Int), .slice R7 r7 k7] 27) = wE at *
  refine (impl_NeighborFar_c _ _ _ _ _ _ _ _ _ _ _ hR47 (by omega) hR57 (by omega)).mono ?_
  rw [hft.out]
  rintro e w8 ⟨rfl, hb8⟩
  have hB8 := lo_trans hB7 hb8
  have hq68 := hq67.next hb8
  have hR68 := hR67.next hb8
  have hq78 := hq7.next hb8
  have hR78 := hR7.next hb8
  clear a0 a1 c0 c1
  have a0 := hq68.cell 0
  have a1 := hq68.cell 1
  have c0 := hq78.cell 0
  have c1 := hq78.cell 1
  go_wp2_with fail
  refine (impl_NeighborFar_c _ _ _ _ _ _ _ _ _ _ _ hR68 (by omega) hR78 (by omega)).mono ?_
  rw [hfo.out]
  rintro e w9 ⟨rfl, hb9⟩
  go_wp2
  go_ret
  exact ⟨rfl, lo_trans hB8 hb9⟩
end Go.Proofs.Ytjogfeichnkffaa
