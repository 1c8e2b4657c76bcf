/- The law FnWeightsBuild walked. -/
import Derived.Test.YtnbaedpckdefgaaKd
import Derived.Test.YtnbaedpckdefgaaSu
import Derived.Test.YtnbaedpckdefgaaMathD
import Derived.Test.YtnbaedpckdefgaaMathWu
import Derived.Test.YtnbaedpckdefgaaBx
import Derived.Test.YtnbaedpckdefgaaKs
import Derived.Deep.RegionHeld3
import Derived.Deep.Cut
namespace Go.Proofs.Ytnbaedpckdefgaa
open Go.RowKit
set_option maxRecDepth 100000

theorem cSums_inB {m : Nat} {xs : List Int} (h : okB (m : Int) xs = true) : sIn (xs.length : Int) (csum m xs) = true := by
  have hb := okB_bd h
  refine sIn_yes (by simp [csum]; omega) (by simp [csum]; omega) (allIn_of fun k hk => ?_)
  have hk' : k < m := by simpa [csum] using hk
  have := ccnt_le xs k
  simp only [csum, List.getElem?_map, List.getElem?_range hk', Option.map_some, Option.getD_some]
  omega
theorem sV_own {m : Nat} {xs : List Int} (h : okB (m : Int) xs = true) : sV (rsum xs) (csum m xs) = true := by
  have h1 := rSums_in h
  rw [rSums, if_pos h] at h1
  rw [sV, csum_len, rsum_len, h1, cSums_inB h]
  rfl
theorem cntW_uniq {m : Nat} {xs : List Int} (hu : uniqB (m : Int) xs = true) : cntW (rsum xs) (csum m xs) = 1 ∨ cntW (rsum xs) (csum m xs) = -1 := by
  have hk := uniqB_ok hu
  rw [cntW]
  split
  · refine .inl ?_
    have h1 : xs ∈ imgL (rsum xs) (csum m xs) := (imgL_sums hk xs).2 ⟨rfl, hk, rfl, rfl⟩
    have h2 : (imgL (rsum xs) (csum m xs)).length ≤ [xs].length := nodup_sub (imgL_nodup _ _) (fun y hy => by
      obtain ⟨g1, g2, g3, g4⟩ := (imgL_sums hk y).1 hy
      rw [List.mem_singleton]
      exact uniq_same hu g2 g1 g3 g4)
    have h3 := List.length_pos_of_mem h1
    simp at h2
    omega
  · exact .inr rfl
theorem build_uniq {m : Nat} {xs : List Int} (hu : uniqB (m : Int) xs = true) : consB (rsum xs) (csum m xs) = true ∧ bldW (rsum xs) (csum m xs) = (m : Int) ∧ bldX (rsum xs) (csum m xs) = xs := by
  have hk := uniqB_ok hu
  obtain ⟨h1, h2, h3, h4, h5, h6⟩ := bld_image hk (sV_own hk)
  exact ⟨h1, h2, uniq_same hu h3 h4 h5 h6⟩

set_option maxHeartbeats 16000000 in
theorem law_WeightsBuild (A : Option Addr) (n c : Nat) (w : World) (hr : RdB w A n) (hb : n ≤ maxLen ∧ n ≤ c) :
    Calls Try.prog 4 #[.slice A n c] w fun e w' => e = .returned (.bool true) ∧ Below w.heap.size w w' := by
  by_cases h1 : 1048576 < n
  · go_enter Try.func4, Try.ntmps4
    go_wp2
    go_ret
    exact ⟨rfl, by (repeat (first | exact Below.refl _ _ | assumption | refine lo_alloc ?_ _ | refine lo_set ?_ (by simp; try omega) _ | refine Below.drew ?_ | refine below_drewN ?_ _ | refine lo_trans ?_ (by assumption) | refine lo_wr ?_ (by assumption) (by omega)))⟩
  go_enter Try.func4, Try.ntmps4
  go_wp2_with fail
  refine (DrawWeightsImage_c A n c _ hr (by omega) hb.2).mono ?_
  rintro e w1 ⟨P, l, a, Q, m, b, p, q, rfl, hl, hm, ho1, ho2, hb1⟩
  have hs1 := hb1.size
  go_wp2_with fail
  refine (impl_WeightsImage_c _ _ _ _ _ _ p q _ ho1.rd ho2.rd (by omega) (by omega)).mono ?_
  rintro e w2 ⟨R, r, k, rfl, hb2, ho3⟩
  have hr1 : r ≤ 6 := by rw [← ho3.1]; exact wX_len p q
  have hs2 := hb2.size
  have hkA := Blk.new w2 25 #[.int .i64 (wW p q), .slice R r k]
  have hbA := lo_alloc (Below.refl w2.heap.size w2) (.cells #[.int .i64 (wW p q), .slice R r k] 25)
  have hbAz : w2.heap.size < (w2.alloc (.cells #[.int .i64 (wW p q), .slice R r k] 25)).heap.size := by simp
  go_wp2_with fail
  generalize w2.alloc (.cells #[.int .i64 (wW p q), .slice R r k] 25) = wA at hkA hbA hbAz  ⊢
  refine (spec_WeightsImage_c _ _ _ _ _ _ p q _ (ho1.next (by (repeat (first | exact Below.refl _ _ | assumption | refine lo_alloc ?_ _ | refine lo_set ?_ (by simp; try omega) _ | refine Below.drew ?_ | refine below_drewN ?_ _ | refine lo_trans ?_ (by assumption) | refine lo_wr ?_ (by assumption) (by omega))))).rd (ho2.next (by (repeat (first | exact Below.refl _ _ | assumption | refine lo_alloc ?_ _ | refine lo_set ?_ (by simp; try omega) _ | refine Below.drew ?_ | refine below_drewN ?_ _ | refine lo_trans ?_ (by assumption) | refine lo_wr ?_ (by assumption) (by omega))))).rd (by omega) (by omega)).mono ?_
  rintro e w3 ⟨S, s, j, rfl, hb3, ho4⟩
  have hs3 := hb3.size
  have a' : Blk (w3.alloc (.cells #[.int .i64 (wW p q), .slice S s j] 25)) _ _ _ := hkA.next (by (repeat (first | exact Below.refl _ _ | assumption | refine lo_alloc ?_ _ | refine lo_set ?_ (by simp; try omega) _ | refine Below.drew ?_ | refine below_drewN ?_ _ | refine lo_trans ?_ (by assumption) | refine lo_wr ?_ (by assumption) (by omega))))
  have a0 := a'.cell 0
  have a1 := a'.cell 1
  clear a'
  have hkB := Blk.new w3 25 #[.int .i64 (wW p q), .slice S s j]
  have hbB := lo_alloc (Below.refl w3.heap.size w3) (.cells #[.int .i64 (wW p q), .slice S s j] 25)
  have hbBz : w3.heap.size < (w3.alloc (.cells #[.int .i64 (wW p q), .slice S s j] 25)).heap.size := by simp
  go_wp2_with fail
  generalize w3.alloc (.cells #[.int .i64 (wW p q), .slice S s j] 25) = wB at hkB hbB hbBz a0 a1 ⊢
  refine (lsameImage_t _ _ _ _ _ _ _ (wX p q) _ (ho3.next (by (repeat (first | exact Below.refl _ _ | assumption | refine lo_alloc ?_ _ | refine lo_set ?_ (by simp; try omega) _ | refine Below.drew ?_ | refine below_drewN ?_ _ | refine lo_trans ?_ (by assumption) | refine lo_wr ?_ (by assumption) (by omega))))).rd (ho4.next (by (repeat (first | exact Below.refl _ _ | assumption | refine lo_alloc ?_ _ | refine lo_set ?_ (by simp; try omega) _ | refine Below.drew ?_ | refine below_drewN ?_ _ | refine lo_trans ?_ (by assumption) | refine lo_wr ?_ (by assumption) (by omega))))).rd (by omega)).mono ?_
  rintro e w4 ⟨rfl, hb4⟩
  have hs4 := hb4.size
  clear a0 a1
  have kA4 : Blk w4 w2.heap.size _ _ := hkA.next (by (repeat (first | exact Below.refl _ _ | assumption | refine lo_alloc ?_ _ | refine lo_set ?_ (by simp; try omega) _ | refine Below.drew ?_ | refine below_drewN ?_ _ | refine lo_trans ?_ (by assumption) | refine lo_wr ?_ (by assumption) (by omega))))
  have kB4 : Blk w4 w3.heap.size _ _ := hkB.next (by (repeat (first | exact Below.refl _ _ | assumption | refine lo_alloc ?_ _ | refine lo_set ?_ (by simp; try omega) _ | refine Below.drew ?_ | refine below_drewN ?_ _ | refine lo_trans ?_ (by assumption) | refine lo_wr ?_ (by assumption) (by omega))))
  have a0 := kA4.cell 0
  have a1 := kA4.cell 1
  have b0 := kB4.cell 0
  have b1 := kB4.cell 1
  cases hO : wOk p q with
  | false =>
    go_wp2_with fail
    refine (lsameImage_t _ _ _ _ _ _ _ (wX p q) _ (ho3.next (by (repeat (first | exact Below.refl _ _ | assumption | refine lo_alloc ?_ _ | refine lo_set ?_ (by simp; try omega) _ | refine Below.drew ?_ | refine below_drewN ?_ _ | refine lo_trans ?_ (by assumption) | refine lo_wr ?_ (by assumption) (by omega))))).rd (ho4.next (by (repeat (first | exact Below.refl _ _ | assumption | refine lo_alloc ?_ _ | refine lo_set ?_ (by simp; try omega) _ | refine Below.drew ?_ | refine below_drewN ?_ _ | refine lo_trans ?_ (by assumption) | refine lo_wr ?_ (by assumption) (by omega))))).rd (by omega)).mono ?_
    rintro e w5 ⟨rfl, hb5⟩
    go_wp2
    go_ret
    exact ⟨rfl, by (repeat (first | exact Below.refl _ _ | assumption | refine lo_alloc ?_ _ | refine lo_set ?_ (by simp; try omega) _ | refine Below.drew ?_ | refine below_drewN ?_ _ | refine lo_trans ?_ (by assumption) | refine lo_wr ?_ (by assumption) (by omega)))⟩
  | true =>
    have hO' := Lib.hid hO
    clear b0 b1 kB4
    have hbd := wOk_bd hO
    have hF := wFit_self hO
    have hW : wW p q = (q.length : Int) := wW_eq hO
    obtain ⟨mm, hmm⟩ : ∃ mm, mm = q.length := ⟨_, rfl⟩
    rw [← hmm] at hW
    obtain ⟨xs, hxs⟩ : ∃ xs, xs = wX p q := ⟨_, rfl⟩
    rw [← hxs, hW] at hF
    have H4 : Below w.heap.size w w4 := lo_trans (lo_trans (lo_trans (lo_trans (lo_trans hb1 hb2) hbA) hb3) hbB) hb4
    have hX4 : Own w4 w1.heap.size R r xs := by rw [hxs]; exact ho3.next (lo_trans (lo_trans (lo_trans hbA hb3) hbB) hb4)
    rw [hW] at kA4 a0 ⊢
    have hu := wFit_uniq hF
    have hk := uniqB_ok hu
    have hU := Lib.hid (build_uniq hu)
    have hC := Lib.hid (cntW_uniq hu)
    have hSr := Lib.hid (show rSums (mm : Int) xs = rsum xs by rw [rSums, hk]; rfl)
    have hSc := Lib.hid (show cSums (mm : Int) xs = csum mm xs by rw [cSums, hk, Int.toNat_natCast]; rfl)
    have hrl' := Lib.hid (show (rsum xs).length ≤ 6 by rw [rsum_len]; have := okB_bd hk; omega)
    have hcl' := Lib.hid (show (csum mm xs).length ≤ 6 by rw [csum_len]; have := okB_bd hk; omega)
    have hz4 := kA4.lt
    clear hO hF hu hk hbd hmm hxs hW hb1 hb2 hbA hb3 hb4 ho1 ho2 ho3 ho4 hkA hkB hbB
    have hXr := hX4.rd
    go_upto_region 8 with fail
    go_cut [9, 10] from 12 (fun s9 s10 wx => ∃ (o : Nat) (R' : Option Addr) (r' k' : Nat), s9 = .pointer (some ⟨o, 0, none⟩) ∧ s10 = .bool true ∧ Below w4.heap.size w4 wx ∧ Blk wx o 25 #[.int .i64 (mm : Int), .slice R' r' k'] ∧ Own wx w4.heap.size R' r' xs)
    case first =>
      go_region_held3 (fun w' => w'.cell? ⟨w2.heap.size, 0, none⟩ = some (.int .i64 (mm : Int)) ∧ w'.cell? ⟨w2.heap.size, 1, none⟩ = some (.slice R r k))
        (first
          | go_keep
          | exact ⟨(kA4.next (by (repeat (first | exact Below.refl _ _ | assumption | refine lo_alloc ?_ _ | refine lo_set ?_ (by simp; try omega) _ | refine Below.drew ?_ | refine below_drewN ?_ _ | refine lo_trans ?_ (by assumption) | refine lo_wr ?_ (by assumption) (by omega))))).cell 0, (kA4.next (by (repeat (first | exact Below.refl _ _ | assumption | refine lo_alloc ?_ _ | refine lo_set ?_ (by simp; try omega) _ | refine Below.drew ?_ | refine below_drewN ?_ _ | refine lo_trans ?_ (by assumption) | refine lo_wr ?_ (by assumption) (by omega))))).cell 1⟩)
        (first
          | (go_at_call 9
             refine (RowSums_c _ _ _ _ xs _ (hXr.next (by (repeat (first | exact Below.refl _ _ | assumption | refine lo_alloc ?_ _ | refine lo_set ?_ (by simp; try omega) _ | refine Below.drew ?_ | refine below_drewN ?_ _ | refine lo_trans ?_ (by assumption) | refine lo_wr ?_ (by assumption) (by omega))))) (by omega)).mono ?_
             rw [hSr.out]
             rintro e w6 ⟨R6, r6, d6, rfl, hb6, hO6⟩
             try (have hk : Blk w6 w4.heap.size 25 #[.int .i64 0, .slice none 0 0] := (Blk.new w4.drew 25 #[.int .i64 0, .slice none 0 0]).next hb6)
             try (have hk : Blk w6 w7.heap.size 25 #[.int .i64 0, .slice none 0 0] := (Blk.new w7 25 #[.int .i64 0, .slice none 0 0]).next hb6)
             try (have hk := hk.next hb6)
             try (have hkl := hk.lt)
             try (have q0 := hk.cell 0; have q1 := hk.cell 1; have q2 := hk.frozen 0; have q3 := hk.frozen 1)
             have hs6 : w4.heap.size ≤ w6.heap.size := Below.size (w := w4) (B := w4.heap.size) (by (repeat (first | exact Below.refl _ _ | assumption | refine lo_alloc ?_ _ | refine lo_set ?_ (by simp; try omega) _ | refine Below.drew ?_ | refine below_drewN ?_ _ | refine lo_trans ?_ (by assumption) | refine lo_wr ?_ (by assumption) (by omega))))
             have hO6 := hO6.rd)
          | (go_at_call 10
             refine (ColSums_c _ _ _ _ xs _ (hXr.next (by (repeat (first | exact Below.refl _ _ | assumption | refine lo_alloc ?_ _ | refine lo_set ?_ (by simp; try omega) _ | refine Below.drew ?_ | refine below_drewN ?_ _ | refine lo_trans ?_ (by assumption) | refine lo_wr ?_ (by assumption) (by omega))))) (by omega)).mono ?_
             rw [hSc.out]
             rintro e w7 ⟨R7, r7, d7, rfl, hb7, hO7⟩
             try (have hk : Blk w7 w4.heap.size 25 #[.int .i64 0, .slice none 0 0] := (Blk.new w4.drew 25 #[.int .i64 0, .slice none 0 0]).next hb7)
             try (have hk : Blk w7 w6.heap.size 25 #[.int .i64 0, .slice none 0 0] := (Blk.new w6 25 #[.int .i64 0, .slice none 0 0]).next hb7)
             try (have hk := hk.next hb7)
             try (have hkl := hk.lt)
             try (have q0 := hk.cell 0; have q1 := hk.cell 1; have q2 := hk.frozen 0; have q3 := hk.frozen 1)
             have hs7 : w4.heap.size ≤ w7.heap.size := Below.size (w := w4) (B := w4.heap.size) (by (repeat (first | exact Below.refl _ _ | assumption | refine lo_alloc ?_ _ | refine lo_set ?_ (by simp; try omega) _ | refine Below.drew ?_ | refine below_drewN ?_ _ | refine lo_trans ?_ (by assumption) | refine lo_wr ?_ (by assumption) (by omega))))
             have hO7 := hO7.rd)
          | (go_at_call 15
             refine (BuildImage_x _ _ _ _ _ _ _ _ _ (hO6.next (by (repeat (first | exact Below.refl _ _ | assumption | refine lo_alloc ?_ _ | refine lo_set ?_ (by simp; try omega) _ | refine Below.drew ?_ | refine below_drewN ?_ _ | refine lo_trans ?_ (by assumption) | refine lo_wr ?_ (by assumption) (by omega))))) (hO7.next (by (repeat (first | exact Below.refl _ _ | assumption | refine lo_alloc ?_ _ | refine lo_set ?_ (by simp; try omega) _ | refine Below.drew ?_ | refine below_drewN ?_ _ | refine lo_trans ?_ (by assumption) | refine lo_wr ?_ (by assumption) (by omega))))) (by have := hO6.1; have := hrl'.out; omega) (by have := hO7.1; have := hcl'.out; omega)).mono ?_
             rw [hU.out.1, hU.out.2.1, hU.out.2.2]
             rintro e w8 ⟨R8, r8, d8, rfl, hb8, hO8⟩
             try (have hk : Blk w8 w4.heap.size 25 #[.int .i64 0, .slice none 0 0] := (Blk.new w4.drew 25 #[.int .i64 0, .slice none 0 0]).next hb8)
             try (have hk : Blk w8 w6.heap.size 25 #[.int .i64 0, .slice none 0 0] := (Blk.new w6 25 #[.int .i64 0, .slice none 0 0]).next hb8)
             try (have hk : Blk w8 w7.heap.size 25 #[.int .i64 0, .slice none 0 0] := (Blk.new w7 25 #[.int .i64 0, .slice none 0 0]).next hb8)
             try (have hk := hk.next hb8)
             try (have hkl := hk.lt)
             try (have q0 := hk.cell 0; have q1 := hk.cell 1; have q2 := hk.frozen 0; have q3 := hk.frozen 1)
             have hs8 : w4.heap.size ≤ w8.heap.size := Below.size (w := w4) (B := w4.heap.size) (by (repeat (first | exact Below.refl _ _ | assumption | refine lo_alloc ?_ _ | refine lo_set ?_ (by simp; try omega) _ | refine Below.drew ?_ | refine below_drewN ?_ _ | refine lo_trans ?_ (by assumption) | refine lo_wr ?_ (by assumption) (by omega))))
             skip))
      all_goals
        go_wp2_with fail
        go_meet
        first
          | exact ⟨_, R8, r8, d8, rfl, rfl, by (repeat (first | exact Below.refl _ _ | assumption | refine lo_alloc ?_ _ | refine lo_set ?_ (by simp; try omega) _ | refine Below.drew ?_ | refine below_drewN ?_ _ | refine lo_trans ?_ (by assumption) | refine lo_wr ?_ (by assumption) (by omega))), Blk.new _ _ _, (hO8.alloc _).mono (by first | omega | (simp; omega))⟩
          | exact ⟨_, R8, r8, d8, rfl, rfl, by (repeat (first | exact Below.refl _ _ | assumption | refine lo_alloc ?_ _ | refine lo_set ?_ (by simp; try omega) _ | refine Below.drew ?_ | refine below_drewN ?_ _ | refine lo_trans ?_ (by assumption) | refine lo_wr ?_ (by assumption) (by omega))), (hk.set_ 0 _).set_ 1 _, ((hO8.far_lo (by first | omega | (simp; done) | (simp; omega)) _).far_lo (by first | omega | (simp; done) | (simp; omega)) _).mono (by first | omega | (simp; omega))⟩
    case rest =>
    obtain ⟨o, R', r', k', rfl, rfl, hL9, hB9, hO9⟩ := hcut
    have hB4 : Blk wc w2.heap.size 25 #[.int .i64 (mm : Int), .slice R r k] := kA4.next hL9
    have hX9 := hX4.next hL9
    have H9 := lo_trans H4 hL9
    clear kA4 hX4 H4 hL9 hXr hz4
    have hX9r := hX9.rd
    have a0 := hB4.cell 0
    have a1 := hB4.cell 1
    go_wp2_with fail
    go_region_held3 (fun w' => w'.cell? ⟨w2.heap.size, 0, none⟩ = some (.int .i64 (mm : Int)) ∧ w'.cell? ⟨w2.heap.size, 1, none⟩ = some (.slice R r k))
      (first
        | go_keep
        | exact ⟨(hB4.next (by (repeat (first | exact Below.refl _ _ | assumption | refine lo_alloc ?_ _ | refine lo_set ?_ (by simp; try omega) _ | refine Below.drew ?_ | refine below_drewN ?_ _ | refine lo_trans ?_ (by assumption) | refine lo_wr ?_ (by assumption) (by omega))))).cell 0, (hB4.next (by (repeat (first | exact Below.refl _ _ | assumption | refine lo_alloc ?_ _ | refine lo_set ?_ (by simp; try omega) _ | refine Below.drew ?_ | refine below_drewN ?_ _ | refine lo_trans ?_ (by assumption) | refine lo_wr ?_ (by assumption) (by omega))))).cell 1⟩)
      (first
        | (go_at_call 9
           refine (RowSums_c _ _ _ _ xs _ (hX9r.next (by (repeat (first | exact Below.refl _ _ | assumption | refine lo_alloc ?_ _ | refine lo_set ?_ (by simp; try omega) _ | refine Below.drew ?_ | refine below_drewN ?_ _ | refine lo_trans ?_ (by assumption) | refine lo_wr ?_ (by assumption) (by omega))))) (by omega)).mono ?_
           rw [hSr.out]
           rintro e w6 ⟨R6, r6, d6, rfl, hb6, hO6⟩
           have hO6 := hO6.rd)
        | (go_at_call 10
           refine (ColSums_c _ _ _ _ xs _ (hX9r.next (by (repeat (first | exact Below.refl _ _ | assumption | refine lo_alloc ?_ _ | refine lo_set ?_ (by simp; try omega) _ | refine Below.drew ?_ | refine below_drewN ?_ _ | refine lo_trans ?_ (by assumption) | refine lo_wr ?_ (by assumption) (by omega))))) (by omega)).mono ?_
           rw [hSc.out]
           rintro e w7 ⟨R7, r7, d7, rfl, hb7, hO7⟩
           have hO7 := hO7.rd)
        | (go_at_call 8
           refine (SumsCount_c _ _ _ _ _ _ _ _ _ (hO6.next (by (repeat (first | exact Below.refl _ _ | assumption | refine lo_alloc ?_ _ | refine lo_set ?_ (by simp; try omega) _ | refine Below.drew ?_ | refine below_drewN ?_ _ | refine lo_trans ?_ (by assumption) | refine lo_wr ?_ (by assumption) (by omega))))) (hO7.next (by (repeat (first | exact Below.refl _ _ | assumption | refine lo_alloc ?_ _ | refine lo_set ?_ (by simp; try omega) _ | refine Below.drew ?_ | refine below_drewN ?_ _ | refine lo_trans ?_ (by assumption) | refine lo_wr ?_ (by assumption) (by omega))))) (by have := hO6.1; have := hrl'.out; omega) (by have := hO7.1; have := hcl'.out; omega)).mono ?_
           rintro e w8 ⟨rfl, hb8⟩))
    all_goals
      have hb98 : Below wc.heap.size wc w8 := by (repeat (first | exact Below.refl _ _ | assumption | refine lo_alloc ?_ _ | refine lo_set ?_ (by simp; try omega) _ | refine Below.drew ?_ | refine below_drewN ?_ _ | refine lo_trans ?_ (by assumption) | refine lo_wr ?_ (by assumption) (by omega)))
      have hB8 := hB4.next hb98
      have hO8 := hB9.next hb98
      have a0 := hB8.cell 0
      have a1 := hB8.cell 1
      have b0 := hO8.cell 0
      have b1 := hO8.cell 1
      go_wp2_with fail
      refine (lsameImage_t _ _ _ _ _ _ _ xs _ (hO9.next hb98).rd (hX9.next hb98).rd (by have := hO9.1; have := hX9.1; omega)).mono ?_
      rintro e w10 ⟨rfl, hb10⟩
      have hbF := lo_trans hb98 hb10
      rcases hC.out with hC1 | hC1
      · rw [hC1]
        go_wp2
        go_ret
        exact ⟨rfl, lo_trans H9 hbF⟩
      · rw [hC1]
        go_wp2
        go_ret
        exact ⟨rfl, lo_trans H9 hbF⟩
end Go.Proofs.Ytnbaedpckdefgaa
