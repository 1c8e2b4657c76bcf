/- The law FnReachSame walked. -/
import Derived.Test.YtjogfeichnkffaaMathQ
import Derived.Test.YtjogfeichnkffaaDn
import Derived.Test.YtjogfeichnkffaaNl
namespace Go.Proofs.Ytjogfeichnkffaa
open Go.RowKit
set_option maxRecDepth 100000

set_option maxHeartbeats 8000000 in
theorem law_ReachSame (A : Option Addr) (n c : Nat) (B : Option Addr) (p d : Nat) (w : World) (hr : RdB w A n) (hb : n ≤ maxLen ∧ n ≤ c) (_ : RdB w B p) (_ : p ≤ maxLen ∧ p ≤ d) :
    Calls Try.prog 5 #[.slice A n c, .slice B p d] w fun e w' => e = .returned (.bool true) ∧ Below w.heap.size w w' := by
  by_cases h1 : 1048576 < n
  · go_enter Try.func5, Try.ntmps5
    go_wp2
    go_ret
    exact ⟨rfl, by (repeat (first | exact Below.refl _ _ | assumption | refine lo_alloc ?_ _ | refine lo_set ?_ (by simp; try omega) _ | refine Below.drew ?_ | refine below_drewN ?_ _ | refine lo_trans ?_ (by assumption) | refine lo_wr ?_ (by assumption) (by omega)))⟩
  by_cases h2 : 1048576 < p
  · go_enter Try.func5, Try.ntmps5
    go_wp2
    go_ret
    exact ⟨rfl, by (repeat (first | exact Below.refl _ _ | assumption | refine lo_alloc ?_ _ | refine lo_set ?_ (by simp; try omega) _ | refine Below.drew ?_ | refine below_drewN ?_ _ | refine lo_trans ?_ (by assumption) | refine lo_wr ?_ (by assumption) (by omega)))⟩
  have hm : p ≤ 1048576 := by omega
  have g1 : decide ((1048576 : Int) < (n : Int)) = false := by simp; omega
  have g2 : decide ((1048576 : Int) < (p : Int)) = false := by simp; omega
  go_enter Try.func5, Try.ntmps5
  go_wp2_with fail
  refine (DrawNeighborReach_c A n c _ hr (by omega) hb.2).mono ?_
  rintro e w1 ⟨W, X, x, x', xs, rfl, hx6, hX, hb1⟩
  have hs1 := hb1.size
  clear hb
  have hkA := Blk.new w1 27 #[.int .i64 W, .slice X x x']
  have hbA := lo_alloc (Below.refl w1.heap.size w1) (.cells #[.int .i64 W, .slice X x x'] 27)
  have hbAz : w1.heap.size < (w1.alloc (.cells #[.int .i64 W, .slice X x x'] 27)).heap.size := by simp
  go_wp2_with fail
  generalize w1.alloc (.cells #[.int .i64 W, .slice X x x'] 27) = wA at hkA hbA hbAz  ⊢
  have hXA := hX.next hbA
  generalize hv : reachW W xs = v
  have hv' := Lib.hid hv
  clear hv
  refine (impl_NeighborReach_c _ _ _ _ xs _ hXA.rd (by omega)).mono ?_
  rw [hv'.out]
  rintro e w2 ⟨rfl, hb2⟩
  have hkA2 := hkA.next hb2
  have hX2 := hXA.next hb2
  have a0 := hkA2.cell 0
  have a1 := hkA2.cell 1
  go_wp2_with fail
  refine (spec_NeighborReach_c _ _ _ _ xs _ hX2.rd (by omega)).mono ?_
  rw [hv'.out]
  rintro e w3 ⟨rfl, hb3⟩
  have hkA3 := hkA2.next hb3
  have hX3 := hX2.next hb3
  have hB3 : Below w.heap.size w w3 := lo_trans (lo_trans (lo_trans hb1 hbA) hb2) hb3
  clear a0 a1 hkA hkA2 hX hXA hX2 hb1 hbA hb2 hb3
  by_cases hv0 : v < 0
  · go_wp2
    go_ret
    exact ⟨rfl, hB3⟩
  obtain ⟨m, rfl, hk, hc, hvl⟩ := reachW_ge (show 0 ≤ reachW W xs by rw [hv'.out]; omega)
  rw [hv'.out] at hvl
  have hk' := Lib.hid hk
  have hc' := Lib.hid hc
  have hbd := okB_bd hk
  have hone := reach_one hk
  have htl := Lib.hid (turn_is hk)
  have hol := Lib.hid (other_is hk)
  have hrt := Lib.hid (reachW_turn hk hc)
  have hro := Lib.hid (reachW_other hk hc)
  have hrn := Lib.hid (fun y hy => reachW_nbr hk hc (y := y) hy)
  clear hk hc
  have hxl : xs.length = x := hX3.1
  have hLp : 0 ≤ v := by omega
  have hLm : v ≤ 65536 := by have := reach_len_le hk'.out hc'.out; omega
  have hone' := Lib.hid (show v = 1 ↔ nbrs m xs = [] by rw [← hone, hvl]; omega)
  rw [← hvl] at hrt hro hrn
  rw [hxl] at hrt htl hbd
  clear hvl hone hv'
  have a0 := hkA3.cell 0
  have a1 := hkA3.cell 1
  go_wp2_with fail
  refine (ImageTurn_c _ _ _ _ xs _ hX3.rd (by omega)).mono ?_
  rw [hk'.out, htl.out.1, htl.out.2]
  rintro e w4 ⟨R4, r4, k4, rfl, hb4, ho4⟩
  have hr4 : r4 ≤ 6 := by rw [← ho4.1, turnL_len]; omega
  have hkA4 := (hkA3.next hb4).alloc (.cells #[.int .i64 (x : Int), .slice R4 r4 k4] 27)
  have hX4 := (hX3.next hb4).alloc (.cells #[.int .i64 (x : Int), .slice R4 r4 k4] 27)
  have hB4 := lo_alloc (lo_trans hB3 hb4) (.cells #[.int .i64 (x : Int), .slice R4 r4 k4] 27)
  have ho4' := ho4.alloc (.cells #[.int .i64 (x : Int), .slice R4 r4 k4] 27)
  have hkT := Blk.new w4 27 #[.int .i64 (x : Int), .slice R4 r4 k4]
  clear a0 a1 hkA3 hX3 hB3 hb4 ho4
  have a0 := hkA4.cell 0
  have a1 := hkA4.cell 1
  go_wp2_with fail
  generalize w4.alloc (.cells #[.int .i64 (x : Int), .slice R4 r4 k4] 27) = wT at hkA4 hX4 hB4 ho4' hkT a0 a1 ⊢
  refine (ImageOther_c _ _ _ _ xs _ hX4.rd (by omega)).mono ?_
  rw [hk'.out, hol.out.1, hol.out.2]
  rintro e w5 ⟨R5, r5, k5, rfl, hb5, ho5⟩
  have hr5 : r5 ≤ 6 := by rw [← ho5.1, otherL_len]; omega
  have hkA5 := (hkA4.next hb5).alloc (.cells #[.int .i64 (m : Int), .slice R5 r5 k5] 27)
  have hX5 := (hX4.next hb5).alloc (.cells #[.int .i64 (m : Int), .slice R5 r5 k5] 27)
  have hB5 := lo_alloc (lo_trans hB4 hb5) (.cells #[.int .i64 (m : Int), .slice R5 r5 k5] 27)
  have ho4'' := (ho4'.next hb5).alloc (.cells #[.int .i64 (m : Int), .slice R5 r5 k5] 27)
  have hkT5 := (hkT.next hb5).alloc (.cells #[.int .i64 (m : Int), .slice R5 r5 k5] 27)
  have ho5' := ho5.alloc (.cells #[.int .i64 (m : Int), .slice R5 r5 k5] 27)
  have hkO := Blk.new w5 27 #[.int .i64 (m : Int), .slice R5 r5 k5]
  clear a0 a1 hkA4 hX4 hB4 hb5 ho4' ho5 hkT
  have a0 := hkA5.cell 0
  have a1 := hkA5.cell 1
  go_wp2_with fail
  generalize w5.alloc (.cells #[.int .i64 (m : Int), .slice R5 r5 k5] 27) = wO at hkA5 hX5 hB5 ho4'' hkT5 ho5' hkO a0 a1 ⊢
  refine (impl_ImageNeighbors_c _ _ _ _ xs _ hX5.rd (by omega)).mono ?_
  rintro e w6 ⟨R6, c6, es, rfl, hb6, hI6, hE6⟩
  have hnW : nbrsW (m : Int) xs = nbrs m xs := by simp [nbrsW, hk'.out]
  have hfl : es.length < 1600 := by rw [hE6.len]; exact nbrsW_len _ _
  rw [hnW] at hE6
  have hE6' := Lib.hid hE6
  have hB6 := lo_trans hB5 hb6
  have ho4 := ho4''.next hb6
  have hkT6 := hkT5.next hb6
  have ho5 := ho5'.next hb6
  have hkO6 := hkO.next hb6
  have hR6 := hI6.rdI
  clear a0 a1 hkA5 hX5 hB5 hb6 ho4'' ho5' hkT5 hkO hI6 hnW hE6
  by_cases h0 : es.length = 0
  · have hv1 : v = 1 := hone'.out.2 (by have := hE6'.out.len; exact List.eq_nil_of_length_eq_zero (by omega))
    have h0i : (es.length : Int) = 0 := by omega
    have t0 := hkT6.cell 0
    have t1 := hkT6.cell 1
    subst hv1
    clear hLp hLm hv0
    rw [h0]
    go_wp2_with fail
    refine (impl_NeighborReach_c _ _ _ _ _ _ ho4.rd (by omega)).mono ?_
    rw [hrt.out]
    rintro e w7 ⟨rfl, hb7⟩
    have hkO7 := hkO6.next hb7
    have o0 := hkO7.cell 0
    have o1 := hkO7.cell 1
    have ho7 := ho5.next hb7
    go_wp2_with fail
    refine (impl_NeighborReach_c _ _ _ _ _ _ ho7.rd (by omega)).mono ?_
    rw [hro.out]
    rintro e w8 ⟨rfl, hb8⟩
    go_wp2
    go_ret
    exact ⟨rfl, lo_trans (lo_trans hB6 hb7) hb8⟩
  · have hv1 : ¬ (v = 1) := fun h => h0 (by have := hE6'.out.len; rw [hone'.out.1 h] at this; simpa using this)
    have hidx : p % es.length < es.length := Nat.mod_lt _ (by omega)
    have e1 : (p : Int).tmod (es.length : Int) = ((p % es.length : Nat) : Int) := by rw [Int.tmod_eq_emod_of_nonneg (by omega)]; simp
    have e2 : (p : Int) % (es.length : Int) = ((p % es.length : Nat) : Int) := by simp
    have hne : ¬ es.length = 0 := h0
    obtain ⟨b4, hb4e⟩ : ∃ e, es[p % es.length]? = some e := ⟨es[p % es.length], List.getElem?_eq_getElem hidx⟩
    obtain ⟨gb, off, rfl, hgb, c0, c1, hRb⟩ := hR6.at_ hidx hb4e
    obtain ⟨f1, f2⟩ := hE6'.out.at_ hb4e
    obtain ⟨Wb, Ab, kb, xb⟩ := b4
    dsimp only at c0 c1 hRb f1 f2
    subst f1
    have hmem : xb ∈ nbrs m xs := List.mem_of_getElem? f2
    have hxb6 : xb.length ≤ 6 := by have := nbrs_ok hk'.out hmem; omega
    have hrb := Lib.hid (hrn.out xb hmem)
    rw [Nat.mul_comm 2] at c0 c1
    generalize p % es.length = i0 at hidx e1 e2 c0 c1
    have hi1 : (i0 : Int) < (es.length : Int) := by omega
    have hi0 : (0 : Int) ≤ (i0 : Int) := by omega
    have hpos : (0 : Int) < (es.length : Int) := by omega
    clear hb4e f2 hmem h0
    go_wp2_with fail
    refine (impl_NeighborReach_c _ _ _ _ _ _ hRb (by omega)).mono ?_
    rw [hrb.out]
    rintro e w7 ⟨rfl, hb7⟩
    have hkT7 := hkT6.next hb7
    have t0 := hkT7.cell 0
    have t1 := hkT7.cell 1
    have ho47 := ho4.next hb7
    have hkO7 := hkO6.next hb7
    have ho57 := ho5.next hb7
    clear c0 c1 hRb
    go_wp2_with fail
    refine (impl_NeighborReach_c _ _ _ _ _ _ ho47.rd (by omega)).mono ?_
    rw [hrt.out]
    rintro e w8 ⟨rfl, hb8⟩
    have hkO8 := hkO7.next hb8
    have o0 := hkO8.cell 0
    have o1 := hkO8.cell 1
    have ho58 := ho57.next hb8
    clear t0 t1
    go_wp2_with fail
    refine (impl_NeighborReach_c _ _ _ _ _ _ ho58.rd (by omega)).mono ?_
    rw [hro.out]
    rintro e w9 ⟨rfl, hb9⟩
    have hv2 : ((v : Int) == 1) = false := beq_eq_false_iff_ne.2 hv1
    have hl2 : ((es.length : Int) == 0) = false := beq_eq_false_iff_ne.2 (by omega)
    go_wp2
    go_ret
    exact ⟨rfl, lo_trans (lo_trans (lo_trans hB6 hb7) hb8) hb9⟩
end Go.Proofs.Ytjogfeichnkffaa
