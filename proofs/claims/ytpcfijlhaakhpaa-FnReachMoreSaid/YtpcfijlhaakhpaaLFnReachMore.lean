/- The law FnReachMore walked. -/
import Derived.Test.YtpcfijlhaakhpaaMathX
import Derived.Test.YtpcfijlhaakhpaaKm
import Derived.Deep.RegionHeld3
namespace Go.Proofs.Ytpcfijlhaakhpaa
open Go.RowKit
set_option maxRecDepth 100000

set_option maxHeartbeats 8000000 in
theorem law_ReachMore (A : Option Addr) (n c : Nat) (w : World) (hr : RdB w A n) (hb : n ≤ maxLen ∧ n ≤ c) :
    Calls Try.prog 5 #[.slice A n c] w fun e w' => e = .returned (.bool true) ∧ Below w.heap.size w w' := by
  by_cases h1 : 1048576 < n
  · go_enter Try.func5, Try.ntmps5
    go_wp2
    go_ret
    exact ⟨rfl, by (repeat (first | exact Below.refl _ _ | assumption | refine lo_alloc ?_ _ | refine lo_set ?_ (by simp; try omega) _ | refine Below.drew ?_ | refine below_drewN ?_ _ | refine lo_trans ?_ (by assumption) | refine lo_wr ?_ (by assumption) (by omega)))⟩
  have g1 : decide ((1048576 : Int) < (n : Int)) = false := by simp; omega
  go_enter Try.func5, Try.ntmps5
  go_wp2_with fail
  refine (DrawNeighborReach_c A n c _ hr (by omega) hb.2).mono ?_
  rintro e w1 ⟨W, X, x, x', xs, rfl, hx6, hX, hb1⟩
  have hs1 := hb1.size
  clear hb
  have hkA := Blk.new w1 25 #[.int .i64 W, .slice X x x']
  have hbA := lo_alloc (Below.refl w1.heap.size w1) (.cells #[.int .i64 W, .slice X x x'] 25)
  have hbAz : w1.heap.size < (w1.alloc (.cells #[.int .i64 W, .slice X x x'] 25)).heap.size := by simp
  go_wp2_with fail
  generalize w1.alloc (.cells #[.int .i64 W, .slice X x x'] 25) = wA at hkA hbA hbAz  ⊢
  have hXA := hX.next hbA
  generalize hv : reachW W xs = v
  have hv' := Lib.hid hv
  clear hv
  refine (impl_NeighborReach_c _ _ _ _ xs _ hXA.rd (by omega)).mono ?_
  rw [hv'.out]
  rintro e w2 ⟨rfl, hb2⟩
  have hkA2 := hkA.next hb2
  have hX2 := hXA.next hb2
  have a0 := hkA2.cell 0
  have a1 := hkA2.cell 1
  go_wp2_with fail
  refine (spec_NeighborReach_c _ _ _ _ xs _ hX2.rd (by omega)).mono ?_
  rw [hv'.out]
  rintro e w3 ⟨rfl, hb3⟩
  have hkA3 := hkA2.next hb3
  have hX3 := hX2.next hb3
  have hB3 : Below w.heap.size w w3 := lo_trans (lo_trans (lo_trans hb1 hbA) hb2) hb3
  clear a0 a1 hkA hkA2 hX hXA hX2 hb1 hbA hb2 hb3
  by_cases hv0 : v < 0
  · go_wp2
    go_ret
    exact ⟨rfl, hB3⟩
  obtain ⟨m, rfl, hk, hc, hvl⟩ := reachW_ge (show 0 ≤ reachW W xs by rw [hv'.out]; omega)
  rw [hv'.out] at hvl
  have hk' := Lib.hid hk
  have hbd := okB_bd hk
  have hxl : xs.length = x := hX3.1
  have hsm := swMany_nbrs hk
  have hgt : swManyW (m : Int) xs < v := by rw [hsm, hvl]; have := reach_more hk; omega
  have hle := reach_less hk
  rw [hxl] at hle hbd
  have hle2 : v ≤ (cAll m (rSums (m : Int) xs) x : Int) := by omega
  have hin := Lib.hid (rSums_in hk)
  have hrl : (rSums (m : Int) xs).length = x := by simp [rSums, hk, rsum, hxl]
  have hLm : v ≤ 65536 := by have := reach_len_le hk hc; omega
  have hLp : 0 ≤ v := by omega
  have hsm0 : 0 ≤ swManyW (m : Int) xs := by rw [hsm]; omega
  clear hk hc hvl hv' hsm hle hxl
  have hsmh : Hid (∃ sm, sm = swManyW (m : Int) xs) := Lib.hid ⟨_, rfl⟩
  obtain ⟨sm, hsme⟩ := hsmh.out
  rw [← hsme] at hgt hsm0
  have hsme' := Lib.hid hsme
  obtain ⟨ca, hcae⟩ : ∃ ca : Nat, ca = cAll m (rSums (m : Int) xs) x := ⟨_, rfl⟩
  rw [← hcae] at hle2
  have hcae' := Lib.hid hcae
  have hrl' := Lib.hid hrl
  clear hsme hsmh hcae hrl
  have a0 := hkA3.cell 0
  have a1 := hkA3.cell 1
  have hX3d := hX3.rd.drew
  go_wp2
  go_region_held3 (fun w' => Below w3.drew.heap.size w3.drew w' ∧ w'.cell? ⟨w1.heap.size, 0, none⟩ = some (.int .i64 (m : Int)) ∧ w'.cell? ⟨w1.heap.size, 1, none⟩ = some (.slice X x x'))
    (first
      | exact ⟨hLr, (hkA3.drew.next hLr).cell 0, (hkA3.drew.next hLr).cell 1⟩
      | exact ⟨Below.refl _ _, a0, a1⟩)
    (first
      | (go_at_call 16
         refine (SwitchMany_c _ _ _ _ xs _ (hX3d.next (And.left ‹Below _ _ _ ∧ _›)) (by omega)).mono ?_
         rw [← hsme'.out]
         rintro e w5 ⟨rfl, hb5⟩
         have hLr := lo_trans (And.left ‹Below w3.drew.heap.size _ _ ∧ _›) hb5)
      | (go_at_call 23
         refine (RowSums_c _ _ _ _ xs _ (hX3d.next hLr) (by omega)).mono ?_
         rintro e w6 ⟨R6, r6, d6, rfl, hb6, hO6⟩
         have hO6 := hO6.rd
         have hLr := lo_trans hLr hb6)
      | (go_at_call 22
         refine (CountAll_ok _ _ _ m _ _ hO6 (by omega) (by omega) hin.out).mono ?_
         rw [show r6 = x from hO6.1.symm.trans hrl'.out, ← hcae'.out]
         rintro e w7 ⟨rfl, hb7⟩
         have hLr := lo_trans hLr hb7))
  go_wp2
  go_ret
  exact ⟨ret_bool (by simp), lo_trans hB3 (lo_trans (Below.drew (Below.refl _ _)) hLr)⟩
end Go.Proofs.Ytpcfijlhaakhpaa
