/- The law FnFarIff walked. -/
import Derived.Test.YtpcfijlhaakhpaaMathV
import Derived.Test.YtpcfijlhaakhpaaKm
namespace Go.Proofs.Ytpcfijlhaakhpaa
open Go.RowKit
set_option maxRecDepth 100000

set_option maxHeartbeats 8000000 in
theorem law_FarIff (A : Option Addr) (n c : Nat) (w : World) (hr : RdB w A n) (hb : n ≤ maxLen ∧ n ≤ c) :
    Calls Try.prog 6 #[.slice A n c] w fun e w' => e = .returned (.bool true) ∧ Below w.heap.size w w' := by
  by_cases h1 : 1048576 < n
  · go_enter Try.func6, Try.ntmps6
    go_wp2
    go_ret
    exact ⟨rfl, by (repeat (first | exact Below.refl _ _ | assumption | refine lo_alloc ?_ _ | refine lo_set ?_ (by simp; try omega) _ | refine Below.drew ?_ | refine below_drewN ?_ _ | refine lo_trans ?_ (by assumption) | refine lo_wr ?_ (by assumption) (by omega)))⟩
  have g1 : decide ((1048576 : Int) < (n : Int)) = false := by simp; omega
  go_enter Try.func6, Try.ntmps6
  go_wp2_with fail
  refine (DrawNeighborFar_c A n c _ hr (by omega) hb.2).mono ?_
  rintro e w1 ⟨W, X, x, x', xs, V, Y, y, y', ys, rfl, hx6, hy6, hX, hY, hb1⟩
  have hs1 := hb1.size
  clear hb
  obtain ⟨oa, hoa⟩ : ∃ oa, oa = w1.heap.size := ⟨_, rfl⟩
  obtain ⟨wA, hwA⟩ : ∃ wA, wA = (w1.alloc (.cells #[.int .i64 W, .slice X x x'] 25)).alloc (.cells #[.int .i64 V, .slice Y y y'] 25) := ⟨_, rfl⟩
  have hkA : Blk wA oa 25 #[.int .i64 W, .slice X x x'] := by rw [hwA, hoa]; exact (Blk.new w1 _ _).alloc _
  have hkB : Blk wA (oa + 1) 25 #[.int .i64 V, .slice Y y y'] := by rw [hwA, hoa]; exact heap_at2 w1 _ _ _
  have hXA : Rd wA X x xs := by rw [hwA]; exact (hX.alloc _).alloc _
  have hYA : Rd wA Y y ys := by rw [hwA]; exact (hY.alloc _).alloc _
  have hBA : Below w.heap.size w wA := by rw [hwA]; exact lo_alloc (lo_alloc hb1 _) _
  clear hX hY hb1
  generalize hv : farW W xs V ys = v
  have hv' := Lib.hid hv
  clear hv
  go_wp2_with fail
  rw [← hoa, ← hwA]
  have hoa' := Lib.hid hoa; clear hoa
  have hwA' := Lib.hid hwA; clear hwA
  refine (impl_NeighborFar_c _ _ _ _ xs _ _ _ _ ys _ hXA (by omega) hYA (by omega)).mono ?_
  rw [hv'.out]
  rintro e w2 ⟨rfl, hb2⟩
  have hkA2 := hkA.next hb2
  have hkB2 := hkB.next hb2
  have hX2 := hXA.next hb2
  have hY2 := hYA.next hb2
  have a0 := hkA2.cell 0
  have a1 := hkA2.cell 1
  have c0 := hkB2.cell 0
  have c1 := hkB2.cell 1
  go_wp2_with fail
  refine (spec_NeighborFar_c _ _ _ _ xs _ _ _ _ ys _ hX2 (by omega) hY2 (by omega)).mono ?_
  rw [hv'.out]
  rintro e w3 ⟨rfl, hb3⟩
  have hkA3 := hkA2.next hb3
  have hkB3 := hkB2.next hb3
  have hX3 := hX2.next hb3
  have hY3 := hY2.next hb3
  have hB3 : Below w.heap.size w w3 := lo_trans (lo_trans hBA hb2) hb3
  clear a0 a1 c0 c1 hkA hkA2 hkB hkB2 hXA hYA hX2 hY2 hBA hb2 hb3
  have a0 := hkA3.cell 0
  have a1 := hkA3.cell 1
  have c0 := hkB3.cell 0
  have c1 := hkB3.cell 1
  go_wp2_with fail
  refine (ImageDistance_c _ _ _ _ xs _ _ _ _ ys _ hX3 (by omega) hY3 (by omega)).mono ?_
  cases hs : sizeB W xs V ys with
  | false =>
    have hd : distW W xs V ys = -1 := by simp [distW, hs]
    have hv1 : v = -1 := by rw [← hv'.out]; exact farW_none (fun h => by rw [hs] at h; cases h.1)
    rw [hd]
    rintro e w4 ⟨rfl, hb4⟩
    subst hv1
    go_wp2
    go_ret
    exact ⟨rfl, lo_trans hB3 hb4⟩
  | true =>
    have hd : distW W xs V ys = (distX xs ys : Int) := by simp [distW, hs]
    rw [hd]
    obtain ⟨m, rfl, rfl, hx, hy, hl⟩ := sizeB_out hs
    have hxl : xs.length = x := hX3.1
    have hbd := okB_bd hx
    rw [hxl] at hbd
    have hmul : (x : Int) * (m : Int) = ((x * m : Nat) : Int) := by simp
    have hmul3 : x * m ≤ 6 * 6 := Nat.mul_le_mul (by omega) (by omega)
    have hmul1 : (0 : Int) ≤ (x : Int) * (m : Int) := by omega
    have hmul2 : (x : Int) * (m : Int) ≤ 36 := by omega
    have hkA4 := fun w4 hb4 => hkA3.next (w' := w4) hb4
    have hkB4 := fun w4 hb4 => hkB3.next (w' := w4) hb4
    clear a0 a1 c0 c1 hkA3 hkB3
    rintro e w4 ⟨rfl, hb4⟩
    have hkA := hkA4 w4 hb4
    have hkB := hkB4 w4 hb4
    have hB4 := lo_trans hB3 hb4
    have hX4 := hX3.next hb4
    have hY4 := hY3.next hb4
    clear hkA4 hkB4 hB3 hb4 hX3 hY3
    have a0 := hkA.cell 0
    have a1 := hkA.cell 1
    have c0 := hkB.cell 0
    have c1 := hkB.cell 1
    generalize distX xs ys = dd at hd ⊢
    have hdd : ¬ ((dd : Int) < 0) := by omega
    by_cases hc : x * m ≤ 12
    · have hg : ¬ ((12 : Int) < (x : Int) * (m : Int)) := by omega
      have hf := far_same hx hy hl (by rw [hxl]; exact hc)
      rw [hv'.out] at hf
      clear hmul hmul3 hxl hd hl hx hy hs
      cases hsm : sameB (m : Int) xs (m : Int) ys with
      | true =>
        have hv0 : 0 ≤ v := hf.2 hsm
        clear hf
        go_wp2_with fail
        refine (SumsSame_c _ _ _ _ xs _ _ _ _ ys _ hX4 (by omega) hY4 (by omega)).mono ?_
        rw [hsm]
        rintro e w5 ⟨rfl, hb5⟩
        go_wp2
        go_ret
        exact ⟨rfl, lo_trans hB4 hb5⟩
      | false =>
        have hv0 : ¬ 0 ≤ v := fun h => by rw [hf.1 h] at hsm; cases hsm
        clear hf
        go_wp2_with fail
        refine (SumsSame_c _ _ _ _ xs _ _ _ _ ys _ hX4 (by omega) hY4 (by omega)).mono ?_
        rw [hsm]
        rintro e w5 ⟨rfl, hb5⟩
        go_wp2
        go_ret
        exact ⟨ret_bool (show (!decide (0 ≤ v)) = true by simp; omega), lo_trans hB4 hb5⟩
    · have hg : (12 : Int) < (x : Int) * (m : Int) := by omega
      have hv1 : v = -1 := by rw [← hv'.out]; exact farW_none (fun h => hc (by have := h.2; rw [hxl] at this; simpa using this))
      subst hv1
      clear hmul hmul3 hxl hd hl hx hy hs hv'
      go_wp2
      go_ret
      exact ⟨rfl, hB4⟩
end Go.Proofs.Ytpcfijlhaakhpaa
