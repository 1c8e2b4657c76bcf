/- The law FnFarThree walked. -/
import Derived.Test.YtpoojghommfklaaMathV
import Derived.Test.YtpoojghommfklaaBx
import Derived.Deep.RegionHeld3
import Derived.Deep.Cut
import Derived.Test.YtpoojghommfklaaKm
namespace Go.Proofs.Ytpoojghommfklaa
open Go.RowKit
set_option maxRecDepth 100000

theorem Path.cat {m n k : Nat} {xs ys zs : List Int} (p : Path m xs ys n) (q : Path m ys zs k) : Path m xs zs (n + k) := by
  induction q with
  | nil => exact p
  | step _ hz ih => exact .step ih hz
theorem far_path {m : Nat} {xs ys : List Int} (hx : okB (m : Int) xs = true) (hy : okB (m : Int) ys = true) (hl : xs.length = ys.length) (hc : xs.length * m ≤ 12) (h0 : 0 ≤ farW (m : Int) xs (m : Int) ys) :
    ∃ k : Nat, farW (m : Int) xs (m : Int) ys = (k : Int) ∧ Path m xs ys k := by
  rw [farW_at hx hy hl hc] at h0 ⊢
  obtain ⟨e, he, rfl, h1⟩ := farV_ge h0
  exact ⟨e.2, h1, reach_path he⟩
theorem cSums_in3 {m : Nat} {xs : List Int} (h : okB (m : Int) xs = true) : sIn (xs.length : Int) (csum m xs) = true := by
  have hb := okB_bd h
  refine sIn_yes (by simp [csum]; omega) (by simp [csum]; omega) (allIn_of fun k hk => ?_)
  have hk' : k < m := by simpa [csum] using hk
  have := ccnt_le xs k
  simp only [csum, List.getElem?_map, List.getElem?_range hk', Option.map_some, Option.getD_some]
  omega
theorem sV_own3 {m : Nat} {xs : List Int} (h : okB (m : Int) xs = true) : sV (rsum xs) (csum m xs) = true := by
  have h1 := rSums_in h
  rw [rSums, if_pos h] at h1
  rw [sV, csum_len, rsum_len, h1, cSums_in3 h]
  rfl
theorem far_three {m : Nat} {xs ys : List Int} (hx : okB (m : Int) xs = true) (hy : okB (m : Int) ys = true) (hl : xs.length = ys.length) (hc : xs.length * m ≤ 12) (h0 : 0 ≤ farW (m : Int) xs (m : Int) ys) :
    consB (rsum xs) (csum m xs) = true ∧ bldW (rsum xs) (csum m xs) = (m : Int) ∧ (bldX (rsum xs) (csum m xs)).length = xs.length ∧ 0 ≤ farW (m : Int) xs (m : Int) (bldX (rsum xs) (csum m xs)) ∧ 0 ≤ farW (m : Int) (bldX (rsum xs) (csum m xs)) (m : Int) ys ∧
      farW (m : Int) xs (m : Int) ys ≤ farW (m : Int) xs (m : Int) (bldX (rsum xs) (csum m xs)) + farW (m : Int) (bldX (rsum xs) (csum m xs)) (m : Int) ys ∧ farW (m : Int) xs (m : Int) (bldX (rsum xs) (csum m xs)) ≤ 1000 ∧ farW (m : Int) (bldX (rsum xs) (csum m xs)) (m : Int) ys ≤ 1000 := by
  obtain ⟨h1, h2, h3, h4, h5, h6⟩ := bld_image hx (sV_own3 hx)
  have hs : ∀ y : List Int, okB (m : Int) y = true → rSums (m : Int) y = rsum y ∧ cSums (m : Int) y = csum m y := fun y hy => ⟨by simp [rSums, hy], by simp [cSums, hy]⟩
  have hsm := (sameB_iff hx hy hl).1 ((far_same hx hy hl hc).1 h0)
  generalize bldX (rsum xs) (csum m xs) = z at h3 h4 h5 h6 ⊢
  have f1 : 0 ≤ farW (m : Int) xs (m : Int) z := (far_same hx h3 h4.symm hc).2 ((sameB_iff hx h3 h4.symm).2 ⟨by rw [(hs xs hx).1, (hs z h3).1, h5], by rw [(hs xs hx).2, (hs z h3).2, h6]⟩)
  have hcz : z.length * m ≤ 12 := by rw [h4]; exact hc
  have hlz : z.length = ys.length := by omega
  have f2 : 0 ≤ farW (m : Int) z (m : Int) ys := (far_same h3 hy hlz hcz).2 ((sameB_iff h3 hy hlz).2 ⟨by rw [← hsm.1, (hs xs hx).1, (hs z h3).1, h5], by rw [← hsm.2, (hs xs hx).2, (hs z h3).2, h6]⟩)
  obtain ⟨a, ea, pa⟩ := far_path hx h3 h4.symm hc f1
  obtain ⟨b, eb, pb⟩ := far_path h3 hy hlz hcz f2
  have hle := (far_bound hx hy hl hc h0).2.1 _ (pa.cat pb)
  have b1 := (far_bound hx h3 h4.symm hc f1).2.2
  have b2 := (far_bound h3 hy hlz hcz f2).2.2
  have d1 := distX_le (ys := z) hx
  have d2 := distX_le (ys := ys) h3
  refine ⟨h1, h2, h4, f1, f2, ?_, ?_, ?_⟩
  · rw [ea, eb]
    omega
  · rcases b1 with h | h <;> omega
  · rcases b2 with h | h <;> omega

set_option maxHeartbeats 8000000 in
theorem law_FarThree (A : Option Addr) (n c : Nat) (w : World) (hr : RdB w A n) (hb : n ≤ maxLen ∧ n ≤ c) :
    Calls Try.prog 3 #[.slice A n c] w fun e w' => e = .returned (.bool true) ∧ Below w.heap.size w w' := by
  by_cases h1 : 1048576 < n
  · go_enter Try.func3, Try.ntmps3
    go_wp2
    go_ret
    exact ⟨rfl, by (repeat (first | exact Below.refl _ _ | assumption | refine lo_alloc ?_ _ | refine lo_set ?_ (by simp; try omega) _ | refine Below.drew ?_ | refine below_drewN ?_ _ | refine lo_trans ?_ (by assumption) | refine lo_wr ?_ (by assumption) (by omega)))⟩
  have g1 : decide ((1048576 : Int) < (n : Int)) = false := by simp; omega
  go_enter Try.func3, Try.ntmps3
  go_wp2_with fail
  refine (DrawNeighborFar_c A n c _ hr (by omega) hb.2).mono ?_
  rintro e w1 ⟨W, X, x, x', xs, V, Y, y, y', ys, rfl, hx6, hy6, hX, hY, hb1⟩
  have hs1 := hb1.size
  clear hb
  obtain ⟨oa, hoa⟩ : ∃ oa, oa = w1.heap.size := ⟨_, rfl⟩
  obtain ⟨wA, hwA⟩ : ∃ wA, wA = (w1.alloc (.cells #[.int .i64 W, .slice X x x'] 25)).alloc (.cells #[.int .i64 V, .slice Y y y'] 25) := ⟨_, rfl⟩
  have hkA : Blk wA oa 25 #[.int .i64 W, .slice X x x'] := by rw [hwA, hoa]; exact (Blk.new w1 _ _).alloc _
  have hkB : Blk wA (oa + 1) 25 #[.int .i64 V, .slice Y y y'] := by rw [hwA, hoa]; exact heap_at2 w1 _ _ _
  have hXA : Rd wA X x xs := by rw [hwA]; exact (hX.alloc _).alloc _
  have hYA : Rd wA Y y ys := by rw [hwA]; exact (hY.alloc _).alloc _
  have hBA : Below w.heap.size w wA := by rw [hwA]; exact lo_alloc (lo_alloc hb1 _) _
  clear hX hY hb1
  generalize hv : farW W xs V ys = v
  have hv' := Lib.hid hv
  clear hv
  go_wp2_with fail
  rw [← hoa, ← hwA]
  have hoa' := Lib.hid hoa; clear hoa
  have hwA' := Lib.hid hwA; clear hwA
  refine (impl_NeighborFar_c _ _ _ _ xs _ _ _ _ ys _ hXA (by omega) hYA (by omega)).mono ?_
  rw [hv'.out]
  rintro e w2 ⟨rfl, hb2⟩
  have hkA2 := hkA.next hb2
  have hkB2 := hkB.next hb2
  have hX2 := hXA.next hb2
  have hY2 := hYA.next hb2
  have a0 := hkA2.cell 0
  have a1 := hkA2.cell 1
  have c0 := hkB2.cell 0
  have c1 := hkB2.cell 1
  go_wp2_with fail
  refine (spec_NeighborFar_c _ _ _ _ xs _ _ _ _ ys _ hX2 (by omega) hY2 (by omega)).mono ?_
  rw [hv'.out]
  rintro e w3 ⟨rfl, hb3⟩
  have hkA3 := hkA2.next hb3
  have hkB3 := hkB2.next hb3
  have hX3 := hX2.next hb3
  have hY3 := hY2.next hb3
  have hB3 : Below w.heap.size w w3 := lo_trans (lo_trans hBA hb2) hb3
  clear a0 a1 c0 c1 hkA hkA2 hkB hkB2 hXA hYA hX2 hY2 hBA hb2 hb3
  by_cases hv0 : v < 0
  · go_wp2
    go_ret
    exact ⟨rfl, hB3⟩
  obtain ⟨m, rfl, rfl, hk, hj, hl, hc, hvl⟩ := farW_ge (show 0 ≤ farW W xs V ys by rw [hv'.out]; omega)
  rw [hv'.out] at hvl
  have hk' := Lib.hid hk
  have hj' := Lib.hid hj
  have hbd := okB_bd hk
  have hxl : xs.length = x := hX3.1
  have hyl : ys.length = y := hY3.1
  obtain rfl : x = y := by omega
  have hv0' : 0 ≤ farW (m : Int) xs (m : Int) ys := by rw [hv'.out]; omega
  have hsm := Lib.hid ((far_same hk hj hl hc).1 hv0')
  obtain ⟨k1, k2, k3⟩ := far_bound hk hj hl hc hv0'
  rw [hv'.out] at k1 k2 k3
  have hU := Lib.hid (far_three hk hj hl hc hv0')
  rw [hv'.out] at hU
  have hSr := Lib.hid (show rSums (m : Int) xs = rsum xs by rw [rSums, hk]; rfl)
  have hSc := Lib.hid (show cSums (m : Int) xs = csum m xs by rw [cSums, hk, Int.toNat_natCast]; rfl)
  have hrl' := Lib.hid (show (rsum xs).length ≤ 6 by rw [rsum_len]; omega)
  have hcl' := Lib.hid (show (csum m xs).length ≤ 6 by rw [csum_len]; omega)
  obtain ⟨z, hz⟩ : ∃ z, z = bldX (rsum xs) (csum m xs) := ⟨_, rfl⟩
  rw [← hz] at hU
  have hzl := Lib.hid (show z.length ≤ 6 by rw [hU.out.2.2.1]; omega)
  have hz' := Lib.hid hz
  rw [hxl] at hbd
  have hza := hkA3.lt
  have hzb := hkB3.lt
  clear hvl hv' hk hj hl hc hxl hyl k1 k2 k3 hz hv0' hsm
  have a0 := hkA3.cell 0
  have a1 := hkA3.cell 1
  go_upto_region 8 with fail
  go_cut [7, 8] from 11 (fun s9 s10 wx => ∃ (o : Nat) (R' : Option Addr) (r' k' : Nat), s9 = .pointer (some ⟨o, 0, none⟩) ∧ s10 = .bool true ∧ Below w3.heap.size w3 wx ∧ Blk wx o 25 #[.int .i64 (m : Int), .slice R' r' k'] ∧ Own wx w3.heap.size R' r' z)
  case first =>
    go_region_held3 (fun w' => w'.cell? ⟨oa, 0, none⟩ = some (.int .i64 (m : Int)) ∧ w'.cell? ⟨oa, 1, none⟩ = some (.slice X x x'))
      (first
        | go_keep
        | exact ⟨(hkA3.next (by (repeat (first | exact Below.refl _ _ | assumption | refine lo_alloc ?_ _ | refine lo_set ?_ (by simp; try omega) _ | refine Below.drew ?_ | refine below_drewN ?_ _ | refine lo_trans ?_ (by assumption) | refine lo_wr ?_ (by assumption) (by omega))))).cell 0, (hkA3.next (by (repeat (first | exact Below.refl _ _ | assumption | refine lo_alloc ?_ _ | refine lo_set ?_ (by simp; try omega) _ | refine Below.drew ?_ | refine below_drewN ?_ _ | refine lo_trans ?_ (by assumption) | refine lo_wr ?_ (by assumption) (by omega))))).cell 1⟩)
      (first
        | (go_at_call 8
           refine (RowSums_c _ _ _ _ xs _ (hX3.next (by (repeat (first | exact Below.refl _ _ | assumption | refine lo_alloc ?_ _ | refine lo_set ?_ (by simp; try omega) _ | refine Below.drew ?_ | refine below_drewN ?_ _ | refine lo_trans ?_ (by assumption) | refine lo_wr ?_ (by assumption) (by omega))))) (by omega)).mono ?_
           rw [hSr.out]
           rintro e w6 ⟨R6, r6, d6, rfl, hb6, hO6⟩
           try (have hk : Blk w6 w3.heap.size 25 #[.int .i64 0, .slice none 0 0] := (Blk.new w3.drew 25 #[.int .i64 0, .slice none 0 0]).next hb6)
           try (have hk : Blk w6 w7.heap.size 25 #[.int .i64 0, .slice none 0 0] := (Blk.new w7 25 #[.int .i64 0, .slice none 0 0]).next hb6)
           try (have hk := hk.next hb6)
           try (have hkl := hk.lt)
           try (have q0 := hk.cell 0; have q1 := hk.cell 1; have q2 := hk.frozen 0; have q3 := hk.frozen 1)
           have hs6 : w3.heap.size ≤ w6.heap.size := Below.size (w := w3) (B := w3.heap.size) (by (repeat (first | exact Below.refl _ _ | assumption | refine lo_alloc ?_ _ | refine lo_set ?_ (by simp; try omega) _ | refine Below.drew ?_ | refine below_drewN ?_ _ | refine lo_trans ?_ (by assumption) | refine lo_wr ?_ (by assumption) (by omega))))
           have hO6 := hO6.rd)
        | (go_at_call 9
           refine (ColSums_c _ _ _ _ xs _ (hX3.next (by (repeat (first | exact Below.refl _ _ | assumption | refine lo_alloc ?_ _ | refine lo_set ?_ (by simp; try omega) _ | refine Below.drew ?_ | refine below_drewN ?_ _ | refine lo_trans ?_ (by assumption) | refine lo_wr ?_ (by assumption) (by omega))))) (by omega)).mono ?_
           rw [hSc.out]
           rintro e w7 ⟨R7, r7, d7, rfl, hb7, hO7⟩
           try (have hk : Blk w7 w3.heap.size 25 #[.int .i64 0, .slice none 0 0] := (Blk.new w3.drew 25 #[.int .i64 0, .slice none 0 0]).next hb7)
           try (have hk : Blk w7 w6.heap.size 25 #[.int .i64 0, .slice none 0 0] := (Blk.new w6 25 #[.int .i64 0, .slice none 0 0]).next hb7)
           try (have hk := hk.next hb7)
           try (have hkl := hk.lt)
           try (have q0 := hk.cell 0; have q1 := hk.cell 1; have q2 := hk.frozen 0; have q3 := hk.frozen 1)
           have hs7 : w3.heap.size ≤ w7.heap.size := Below.size (w := w3) (B := w3.heap.size) (by (repeat (first | exact Below.refl _ _ | assumption | refine lo_alloc ?_ _ | refine lo_set ?_ (by simp; try omega) _ | refine Below.drew ?_ | refine below_drewN ?_ _ | refine lo_trans ?_ (by assumption) | refine lo_wr ?_ (by assumption) (by omega))))
           have hO7 := hO7.rd)
        | (go_at_call 7
           refine (BuildImage_x _ _ _ _ _ _ _ _ _ (hO6.next (by (repeat (first | exact Below.refl _ _ | assumption | refine lo_alloc ?_ _ | refine lo_set ?_ (by simp; try omega) _ | refine Below.drew ?_ | refine below_drewN ?_ _ | refine lo_trans ?_ (by assumption) | refine lo_wr ?_ (by assumption) (by omega))))) (hO7.next (by (repeat (first | exact Below.refl _ _ | assumption | refine lo_alloc ?_ _ | refine lo_set ?_ (by simp; try omega) _ | refine Below.drew ?_ | refine below_drewN ?_ _ | refine lo_trans ?_ (by assumption) | refine lo_wr ?_ (by assumption) (by omega))))) (by have := hO6.1; have := hrl'.out; omega) (by have := hO7.1; have := hcl'.out; omega)).mono ?_
           rw [hU.out.1, hU.out.2.1, ← hz'.out]
           rintro e w8 ⟨R8, r8, d8, rfl, hb8, hO8⟩
           try (have hk : Blk w8 w3.heap.size 25 #[.int .i64 0, .slice none 0 0] := (Blk.new w3.drew 25 #[.int .i64 0, .slice none 0 0]).next hb8)
           try (have hk : Blk w8 w6.heap.size 25 #[.int .i64 0, .slice none 0 0] := (Blk.new w6 25 #[.int .i64 0, .slice none 0 0]).next hb8)
           try (have hk : Blk w8 w7.heap.size 25 #[.int .i64 0, .slice none 0 0] := (Blk.new w7 25 #[.int .i64 0, .slice none 0 0]).next hb8)
           try (have hk := hk.next hb8)
           try (have hkl := hk.lt)
           try (have q0 := hk.cell 0; have q1 := hk.cell 1; have q2 := hk.frozen 0; have q3 := hk.frozen 1)
           have hs8 : w3.heap.size ≤ w8.heap.size := Below.size (w := w3) (B := w3.heap.size) (by (repeat (first | exact Below.refl _ _ | assumption | refine lo_alloc ?_ _ | refine lo_set ?_ (by simp; try omega) _ | refine Below.drew ?_ | refine below_drewN ?_ _ | refine lo_trans ?_ (by assumption) | refine lo_wr ?_ (by assumption) (by omega))))
           skip))
    all_goals
      go_wp2_with fail
      go_meet
      first
        | exact ⟨_, R8, r8, d8, rfl, rfl, by (repeat (first | exact Below.refl _ _ | assumption | refine lo_alloc ?_ _ | refine lo_set ?_ (by simp; try omega) _ | refine Below.drew ?_ | refine below_drewN ?_ _ | refine lo_trans ?_ (by assumption) | refine lo_wr ?_ (by assumption) (by omega))), Blk.new _ _ _, (hO8.alloc _).mono (by first | omega | (simp; omega))⟩
        | exact ⟨_, R8, r8, d8, rfl, rfl, by (repeat (first | exact Below.refl _ _ | assumption | refine lo_alloc ?_ _ | refine lo_set ?_ (by simp; try omega) _ | refine Below.drew ?_ | refine below_drewN ?_ _ | refine lo_trans ?_ (by assumption) | refine lo_wr ?_ (by assumption) (by omega))), (hk.set_ 0 _).set_ 1 _, ((hO8.far_lo (by first | omega | (simp; done) | (simp; omega)) _).far_lo (by first | omega | (simp; done) | (simp; omega)) _).mono (by first | omega | (simp; omega))⟩
  case rest =>
  obtain ⟨o, R', r', k', rfl, rfl, hL9, hB9, hO9⟩ := hcut
  have hkA9 := hkA3.next hL9
  have hkB9 := hkB3.next hL9
  have hX9 := hX3.next hL9
  have hY9 := hY3.next hL9
  have H9 := lo_trans hB3 hL9
  clear hkA3 hkB3 hX3 hY3 hB3 hL9
  have hr6 : r' ≤ 6 := by have := hO9.1; have := hzl.out; omega
  have a0 := hkA9.cell 0
  have a1 := hkA9.cell 1
  have b0 := hB9.cell 0
  have b1 := hB9.cell 1
  go_wp2_with fail
  refine (impl_NeighborFar_c _ _ _ _ xs _ _ _ _ z _ hX9 (by omega) hO9.rd (by omega)).mono ?_
  rintro e w10 ⟨rfl, hb10⟩
  have hkA10 := hkA9.next hb10
  have hkB10 := hkB9.next hb10
  have hB10 := hB9.next hb10
  have hY10 := hY9.next hb10
  have hO10 := hO9.next hb10
  have H10 := lo_trans H9 hb10
  clear a0 a1 b0 b1 hkA9 hkB9 hX9 hY9 H9 hB9 hO9 hb10
  have a0 := hkB10.cell 0
  have a1 := hkB10.cell 1
  have b0 := hB10.cell 0
  have b1 := hB10.cell 1
  go_wp2_with fail
  refine (impl_NeighborFar_c _ _ _ _ z _ _ _ _ ys _ hO10.rd (by omega) hY10 (by omega)).mono ?_
  rintro e w11 ⟨rfl, hb11⟩
  obtain ⟨-, -, -, u1, u2, u3, u4, u5⟩ := hU.out
  generalize farW (m : Int) xs (m : Int) z = p1 at u1 u3 u4 ⊢
  generalize farW (m : Int) z (m : Int) ys = p2 at u2 u3 u5 ⊢
  clear hU
  go_wp2
  go_ret
  exact ⟨rfl, lo_trans H10 hb11⟩
end Go.Proofs.Ytpoojghommfklaa
