/- The law FnReachAll walked. -/
import Derived.Test.YtnbaedpckdefgaaMathX
import Derived.Test.YtnbaedpckdefgaaKm
import Derived.Test.YtnbaedpckdefgaaIq
import Derived.Deep.RegionHeld3
namespace Go.Proofs.Ytnbaedpckdefgaa
open Go.RowKit
set_option maxRecDepth 100000

theorem cSums_in {m : Nat} {xs : List Int} (h : okB (m : Int) xs = true) : sIn (xs.length : Int) (cSums (m : Int) xs) = true := by
  have hb := okB_bd h
  have e : cSums (m : Int) xs = csum m xs := by simp [cSums, h]
  rw [e]
  refine sIn_yes (by simp [csum]; omega) (by simp [csum]; omega) (allIn_of fun k hk => ?_)
  have hk' : k < m := by simpa [csum] using hk
  have := ccnt_le xs k
  simp only [csum, List.getElem?_map, List.getElem?_range hk', Option.map_some, Option.getD_some]
  omega
theorem sV_sums {m : Nat} {xs : List Int} (h : okB (m : Int) xs = true) : sV (rSums (m : Int) xs) (cSums (m : Int) xs) = true := by
  have h1 : (cSums (m : Int) xs).length = m := by simp [cSums, h, csum]
  have h2 : (rSums (m : Int) xs).length = xs.length := by simp [rSums, h, rsum]
  rw [sV, h1, h2, rSums_in h, cSums_in h]
  rfl
theorem cntW_reach {m : Nat} {xs : List Int} (h : okB (m : Int) xs = true) (hc : xs.length * m ≤ 16) : cntW (rSums (m : Int) xs) (cSums (m : Int) xs) = ((reach m xs).length : Int) := by
  have h1 : (cSums (m : Int) xs).length = m := by simp [cSums, h, csum]
  have h2 : (rSums (m : Int) xs).length = xs.length := by simp [rSums, h, rsum]
  have hb : cntB (rSums (m : Int) xs) (cSums (m : Int) xs) = true := by
    rw [cntB, sV_sums h, h1, h2, Bool.true_and, decide_eq_true_eq]
    exact hc
  have e1 : rSums (m : Int) xs = rsum xs := by simp [rSums, h]
  have e2 : cSums (m : Int) xs = csum m xs := by simp [cSums, h]
  rw [cntW, hb, if_pos rfl, e1, e2, imgL_reach h]

set_option maxHeartbeats 8000000 in
theorem law_ReachAll (A : Option Addr) (n c : Nat) (w : World) (hr : RdB w A n) (hb : n ≤ maxLen ∧ n ≤ c) :
    Calls Try.prog 3 #[.slice A n c] w fun e w' => e = .returned (.bool true) ∧ Below w.heap.size w w' := by
  by_cases h1 : 1048576 < n
  · go_enter Try.func3, Try.ntmps3
    go_wp2
    go_ret
    exact ⟨rfl, by (repeat (first | exact Below.refl _ _ | assumption | refine lo_alloc ?_ _ | refine lo_set ?_ (by simp; try omega) _ | refine Below.drew ?_ | refine below_drewN ?_ _ | refine lo_trans ?_ (by assumption) | refine lo_wr ?_ (by assumption) (by omega)))⟩
  have g1 : decide ((1048576 : Int) < (n : Int)) = false := by simp; omega
  go_enter Try.func3, Try.ntmps3
  go_wp2_with fail
  refine (DrawNeighborReach_c A n c _ hr (by omega) hb.2).mono ?_
  rintro e w1 ⟨W, X, x, x', xs, rfl, hx6, hX, hb1⟩
  have hs1 := hb1.size
  clear hb
  have hkA := Blk.new w1 25 #[.int .i64 W, .slice X x x']
  have hbA := lo_alloc (Below.refl w1.heap.size w1) (.cells #[.int .i64 W, .slice X x x'] 25)
  have hbAz : w1.heap.size < (w1.alloc (.cells #[.int .i64 W, .slice X x x'] 25)).heap.size := by simp
  go_wp2_with fail
  generalize w1.alloc (.cells #[.int .i64 W, .slice X x x'] 25) = wA at hkA hbA hbAz  ⊢
  have hXA := hX.next hbA
  generalize hv : reachW W xs = v
  have hv' := Lib.hid hv
  clear hv
  refine (impl_NeighborReach_c _ _ _ _ xs _ hXA.rd (by omega)).mono ?_
  rw [hv'.out]
  rintro e w2 ⟨rfl, hb2⟩
  have hkA2 := hkA.next hb2
  have hX2 := hXA.next hb2
  have a0 := hkA2.cell 0
  have a1 := hkA2.cell 1
  go_wp2_with fail
  refine (spec_NeighborReach_c _ _ _ _ xs _ hX2.rd (by omega)).mono ?_
  rw [hv'.out]
  rintro e w3 ⟨rfl, hb3⟩
  have hkA3 := hkA2.next hb3
  have hX3 := hX2.next hb3
  have hB3 : Below w.heap.size w w3 := lo_trans (lo_trans (lo_trans hb1 hbA) hb2) hb3
  clear a0 a1 hkA hkA2 hX hXA hX2 hb1 hbA hb2 hb3
  by_cases hv0 : v < 0
  · go_wp2
    go_ret
    exact ⟨rfl, hB3⟩
  obtain ⟨m, rfl, hk, hc, hvl⟩ := reachW_ge (show 0 ≤ reachW W xs by rw [hv'.out]; omega)
  rw [hv'.out] at hvl
  have hE := Lib.hid (cntW_reach hk hc)
  rw [← hvl] at hE
  have hbd := okB_bd hk
  have hrl : (rSums (m : Int) xs).length ≤ 6 := by simp [rSums, hk, rsum]; omega
  have hcl : (cSums (m : Int) xs).length ≤ 6 := by simp [cSums, hk, csum]; omega
  have hrl' := Lib.hid hrl
  have hcl' := Lib.hid hcl
  clear hk hc hvl hv' hrl hcl hbd
  have a0 := hkA3.cell 0
  have a1 := hkA3.cell 1
  have hX3d := hX3.rd.drew
  have hLr := Below.refl w3.drew.heap.size w3.drew
  go_wp2
  go_region_held3 (fun w' => Below w3.drew.heap.size w3.drew w' ∧ w'.cell? ⟨w1.heap.size, 0, none⟩ = some (.int .i64 (m : Int)) ∧ w'.cell? ⟨w1.heap.size, 1, none⟩ = some (.slice X x x'))
    (first
      | exact ⟨hLr, (hkA3.drew.next hLr).cell 0, (hkA3.drew.next hLr).cell 1⟩)
    (first
      | (go_at_call 9
         refine (RowSums_c _ _ _ _ xs _ (hX3d.next hLr) (by omega)).mono ?_
         rintro e w6 ⟨R6, r6, d6, rfl, hb6, hO6⟩
         try (have hO7 := hO7.next hb6)
         have hO6 := hO6.rd
         have hLr := lo_trans hLr hb6)
      | (go_at_call 10
         refine (ColSums_c _ _ _ _ xs _ (hX3d.next hLr) (by omega)).mono ?_
         rintro e w7 ⟨R7, r7, d7, rfl, hb7, hO7⟩
         try (have hO6 := hO6.next hb7)
         have hO7 := hO7.rd
         have hLr := lo_trans hLr hb7)
      | (go_at_call 8
         refine (SumsCount_c _ _ _ _ _ _ _ _ _ hO6 hO7 (by have := hO6.1; have := hrl'.out; omega) (by have := hO7.1; have := hcl'.out; omega)).mono ?_
         rw [hE.out]
         rintro e w8 ⟨rfl, hb8⟩
         have hLr := lo_trans hLr hb8))
  all_goals
    go_wp2
    go_ret
    exact ⟨ret_bool (by simp), lo_trans hB3 (lo_trans (Below.drew (Below.refl _ _)) hLr)⟩
end Go.Proofs.Ytnbaedpckdefgaa
