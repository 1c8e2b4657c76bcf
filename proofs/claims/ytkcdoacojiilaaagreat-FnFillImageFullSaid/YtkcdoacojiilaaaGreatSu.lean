
/- Walks: the program's sums of rows and columns. -/
import Derived.Test.YtkcdoacojiilaaaGreatKb
import Derived.Test.YtkcdoacojiilaaaGreatWg
import Derived.RegionTactic
namespace Go.Proofs.YtkcdoacojiilaaaGreat
open Go.RowKit
set_option maxRecDepth 100000

theorem rsum_step (xs : List Int) (n k : Nat) (hx : xs.length = n) (hk : k < n) : ((rsum xs).take k ++ List.replicate (n - k) 0).set k (pop (xs[k]?.getD 0).toNat : Nat) = (rsum xs).take (k + 1) ++ List.replicate (n - (k + 1)) 0 := by
  have h := copy_step (rsum xs) n k (by simp [rsum, hx]) hk
  have e : (rsum xs)[k]?.getD 0 = (pop (xs[k]?.getD 0).toNat : Nat) := by simp [rsum, List.getElem?_eq_getElem (show k < xs.length by omega)]
  rw [e] at h
  exact h
theorem okB_at {W : Int} {xs : List Int} (h : okB W xs = true) {k : Nat} (hk : k < xs.length) : ∃ r : Nat, xs[k]?.getD 0 = (r : Int) ∧ r < 64 := by
  have h1 := allIn_at (okB_all h) k hk
  have hb := okB_bd h
  obtain ⟨m, rfl⟩ := Int.eq_ofNat_of_zero_le (show 0 ≤ W by omega)
  have hp := pow_int (j := m) (by omega)
  rw [Int.toNat_natCast] at h1
  exact ⟨(xs[k]?.getD 0).toNat, by omega, by omega⟩

set_option maxHeartbeats 1000000 in
theorem RowSums_c (W : Int) (A : Option Addr) (n c : Nat) (xs : List Int) (w : World) (hr : Rd w A n xs) (hn : n ≤ 1125899906842624) :
    Calls Tryz.prog 28 #[.agg #[.int .i64 W, .slice A n c]] w fun e w' => ∃ R r d, e = .returned (.slice R r d) ∧ Below w.heap.size w w' ∧ Own w' w.heap.size R r (rSums W xs) := by
  cases hk : okB W xs with
  | false =>
    have hS := Lib.hid (show rSums W xs = [] by simp [rSums, hk])
    go_enter Tryz.func28, Tryz.ntmps28
    go_wp2_with fail
    refine (impl_ImageValid_c _ _ _ _ xs _ (hr.alloc _) hn).mono ?_
    rw [hk]
    rintro e w1 ⟨rfl, hb1⟩
    go_wp2
    go_ret
    exact ⟨none, 0, 0, rfl, by (repeat (first | exact Below.refl _ _ | assumption | refine lo_alloc ?_ _ | refine lo_set ?_ (by simp; try omega) _ | refine Below.drew ?_ | refine below_drewN ?_ _ | refine lo_trans ?_ (by assumption) | refine lo_wr ?_ (by assumption) (by omega))), by rw [hS.out]; exact Own.nil_ _ _ _⟩
  | true =>
    have hS := Lib.hid (show rSums W xs = rsum xs by simp [rSums, hk])
    have hbd := okB_bd hk
    rw [hr.1] at hbd
    have hmk := make_row n (by omega)
    go_enter Tryz.func28, Tryz.ntmps28
    go_wp2_with fail
    refine (impl_ImageValid_c _ _ _ _ xs _ (hr.alloc _) hn).mono ?_
    rw [hk]
    rintro e w1 ⟨rfl, hb1⟩
    have hk' := Lib.hid hk; clear hk
    have hk1 : Blk w1 w.heap.size _ _ := (Blk.new w 27 #[.int .i64 W, .slice A n c]).next hb1
    have c1 := hk1.cell 1
    have d1 := (hk1.alloc (.cells (madeCells #[Value.int IntKind.i64 0] n) 3)).cell 1
    have hz1 := hk1.lt
    have hb0 : Blk (w1.alloc (.cells (madeCells #[Value.int IntKind.i64 0] n) 3)) w1.heap.size 3 (ints (List.replicate n 0)) := by rw [← made_ints]; exact Blk.new _ _ _
    have hB0 : Below w.heap.size w (w1.alloc (.cells (madeCells #[Value.int IntKind.i64 0] n) 3)) := by (repeat (first | exact Below.refl _ _ | assumption | refine lo_alloc ?_ _ | refine lo_set ?_ (by simp; try omega) _ | refine Below.drew ?_ | refine below_drewN ?_ _ | refine lo_trans ?_ (by assumption) | refine lo_wr ?_ (by assumption) (by omega)))
    go_wp2
    go_loopw [16] (fun i wr => ∃ k : Nat, k ≤ n ∧ i = .int .i64 k ∧ Below w.heap.size w wr ∧ Blk wr w1.heap.size 3 (ints ((rsum xs).take k ++ List.replicate (n - k) 0))) (fun i _ => n - (intOf i).toNat)
    case atStart => exact ⟨0, Nat.zero_le _, rfl, hB0, hb0⟩
    case round =>
      clear hB0 hb0 c1 d1
      obtain ⟨k, hk, rfl, hB, hblk⟩ := hrel
      have hz2 := hblk.lt
      by_cases hlt : k < n
      · obtain ⟨r, hr1, hr2⟩ := okB_at hk'.out (k := k) (by rw [hr.1]; exact hlt)
        obtain ⟨b, off, rfl, hb, hc⟩ := (hr.next hB).at_ hlt
        have hst := Lib.hid (rsum_step xs n k hr.1 hlt)
        rw [hr1] at hc hst
        have hcc := hblk.icell (k := k) (by simp [rsum, hr.1]; omega)
        have hff := hblk.frozen k
        have H := Lib.hid (hblk.iset k (pop r : Nat)); clear hblk hr1
        go_wp2_with (go_at_call 53; refine (ones_c r _ hr2).mono ?_; rintro e w' ⟨rfl, rfl⟩)
        go_roundw
        case rel => exact ⟨k + 1, by omega, by go_num, lo_set hB (by simp; omega) _, by rw [← hst.out]; exact H.out⟩
        case measure => simp [intOf]; omega
      · obtain rfl : k = n := by omega
        go_wp2
        go_ret
        refine ⟨_, _, _, rfl, hB, ?_⟩
        rw [hS.out]
        exact Own.of_blk (by simpa [List.take_of_length_le, rsum, hr.1] using hblk) (by omega) (by simp [rsum, hr.1])

theorem and_bit (r j : Nat) (hr : r < 1073741824) : bits .and .i64 ((r : Int) / 2 ^ j) 1 = if r.testBit j then 1 else 0 := by
  have hd : (r : Int) / 2 ^ j = ((r / 2 ^ j : Nat) : Int) := by simp
  have hl : r / 2 ^ j ≤ r := Nat.div_le_self _ _
  rw [hd, show (1 : Int) = ((1 : Nat) : Int) from rfl, i64_and_nat _ _ (by omega) (by omega), Nat.and_one_is_mod, Nat.testBit_eq_decide_div_mod_eq]
  have : r / 2 ^ j % 2 < 2 := Nat.mod_lt _ (by omega)
  by_cases h : r / 2 ^ j % 2 = 1
  · simp [h]
  · have h0 : r / 2 ^ j % 2 = 0 := by omega
    simp [h0]
theorem cst_val (xs : List Int) (k j r : Nat) (hl : xs.length ≤ 6) (hr : r < 64) (h : xs[k]?.getD 0 = (r : Int)) :
    wrap64 ((ccnt (xs.take k) j : Int) + bits .and .i64 ((r : Int) / 2 ^ j) 1) = (ccnt (xs.take k) j : Int) + (if (xs[k]?.getD 0).toNat.testBit j then 1 else 0) := by
  have h1 := ccnt_le (xs.take k) j
  have h2 : (xs.take k).length ≤ 6 := by rw [List.length_take]; omega
  rw [and_bit r j (by omega), h, Int.toNat_natCast]
  split <;> exact IntWalk.wrap64_in _ (by omega)

set_option maxHeartbeats 1000000 in
theorem ColSums_c (W : Int) (A : Option Addr) (n c : Nat) (xs : List Int) (w : World) (hr : Rd w A n xs) (hn : n ≤ 1125899906842624) :
    Calls Tryz.prog 29 #[.agg #[.int .i64 W, .slice A n c]] w fun e w' => ∃ R r d, e = .returned (.slice R r d) ∧ Below w.heap.size w w' ∧ Own w' w.heap.size R r (cSums W xs) := by
  cases hk : okB W xs with
  | false =>
    have hS := Lib.hid (show cSums W xs = [] by simp [cSums, hk])
    go_enter Tryz.func29, Tryz.ntmps29
    go_wp2_with fail
    refine (impl_ImageValid_c _ _ _ _ xs _ (hr.alloc _) hn).mono ?_
    rw [hk]
    rintro e w1 ⟨rfl, hb1⟩
    go_wp2
    go_ret
    exact ⟨none, 0, 0, rfl, by (repeat (first | exact Below.refl _ _ | assumption | refine lo_alloc ?_ _ | refine lo_set ?_ (by simp; try omega) _ | refine Below.drew ?_ | refine below_drewN ?_ _ | refine lo_trans ?_ (by assumption) | refine lo_wr ?_ (by assumption) (by omega))), by rw [hS.out]; exact Own.nil_ _ _ _⟩
  | true =>
    have hS := Lib.hid (show cSums W xs = csum W.toNat xs by simp [cSums, hk])
    have hbd := okB_bd hk
    rw [hr.1] at hbd
    obtain ⟨m, rfl⟩ := Int.eq_ofNat_of_zero_le (show 0 ≤ W by omega)
    rw [Int.toNat_natCast] at hS
    have hmk := make_row m (by omega)
    go_enter Tryz.func29, Tryz.ntmps29
    go_wp2_with fail
    refine (impl_ImageValid_c _ _ _ _ xs _ (hr.alloc _) hn).mono ?_
    rw [hk]
    rintro e w1 ⟨rfl, hb1⟩
    have hk' := Lib.hid hk; clear hk
    have hk1 : Blk w1 w.heap.size _ _ := (Blk.new w 27 #[.int .i64 m, .slice A n c]).next hb1
    have c0 := hk1.cell 0
    have d1 := (hk1.alloc (.cells (madeCells #[Value.int IntKind.i64 0] m) 3)).cell 1
    have hz1 := hk1.lt
    have hb0 : Blk (w1.alloc (.cells (madeCells #[Value.int IntKind.i64 0] m) 3)) w1.heap.size 3 (ints (cst m xs 0 0)) := by rw [cst_zero, ← made_ints]; exact Blk.new _ _ _
    have hB0 : Below w.heap.size w (w1.alloc (.cells (madeCells #[Value.int IntKind.i64 0] m) 3)) := by (repeat (first | exact Below.refl _ _ | assumption | refine lo_alloc ?_ _ | refine lo_set ?_ (by simp; try omega) _ | refine Below.drew ?_ | refine below_drewN ?_ _ | refine lo_trans ?_ (by assumption) | refine lo_wr ?_ (by assumption) (by omega)))
    go_wp2
    go_loopw [16] (fun i wr => ∃ k : Nat, k ≤ n ∧ i = .int .i64 k ∧ Below w.heap.size w wr ∧ Blk wr w1.heap.size 3 (ints (cst m xs k 0))) (fun i _ => n - (intOf i).toNat)
    case atStart => exact ⟨0, Nat.zero_le _, rfl, hB0, hb0⟩
    case round =>
      clear hB0 hb0 c0 d1
      obtain ⟨k, hk, rfl, hB, hblk⟩ := hrel
      obtain ⟨wo, rfl⟩ : ∃ wo : World, wo = wr := ⟨_, rfl⟩
      by_cases hlt : k < n
      · obtain ⟨r, hr1, hr2⟩ := okB_at hk'.out (k := k) (by rw [hr.1]; exact hlt)
        obtain ⟨b, off, rfl, hb, hc⟩ := (hr.next hB).at_ hlt
        rw [hr1] at hc
        have hr1' := Lib.hid hr1; clear hr1
        go_wp2
        go_loopw [22] (fun i wr => ∃ j : Nat, j ≤ m ∧ i = .int .i64 j ∧ Below w.heap.size w wr ∧ Blk wr w1.heap.size 3 (ints (cst m xs k j))) (fun i _ => m - (intOf i).toNat)
        case atStart => exact ⟨0, Nat.zero_le _, rfl, hB, hblk⟩
        case round =>
          clear hB hblk hb hc
          obtain ⟨j, hj, rfl, hB, hblk⟩ := hrel
          have hz2 := hblk.lt
          by_cases hlt2 : j < m
          · have hcc := hblk.icell (k := j) (by rw [cst_len]; exact hlt2)
            rw [cst_get hlt2] at hcc
            have hff := hblk.frozen j
            have hV := Lib.hid (cst_val xs k j r (by rw [hr.1]; omega) hr2 hr1'.out)
            have H := Lib.hid (hblk.iset j ((ccnt (xs.take k) j : Int) + (if (xs[k]?.getD 0).toNat.testBit j then 1 else 0)))
            rw [cst_set] at H
            clear hblk
            go_wp2
            go_region
            rw [hV.out]
            go_wp2
            go_roundw
            case rel => exact ⟨j + 1, by omega, by go_num, Below.drew (lo_set hB (by simp; omega) _), H.out.drew⟩
            case measure => simp [intOf]; omega
          · obtain rfl : j = m := by omega
            rw [cst_next (by rw [hr.1]; exact hlt)] at hblk
            go_wp2
            go_roundw
            case rel => exact ⟨k + 1, by omega, by go_num, hB, hblk⟩
            case measure => simp [intOf]; omega
      · obtain rfl : k = n := by omega
        go_wp2
        go_ret
        refine ⟨_, _, _, rfl, hB, ?_⟩
        rw [hS.out]
        exact Own.of_blk (by rw [← cst_done, hr.1]; exact hblk) (by omega) (by simp [csum])
end Go.Proofs.YtkcdoacojiilaaaGreat
