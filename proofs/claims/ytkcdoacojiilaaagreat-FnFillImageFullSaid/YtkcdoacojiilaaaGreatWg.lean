
/- Walks: is an image valid, the program's function and the reference's. -/
import Derived.Test.YtkcdoacojiilaaaGreatKc
import Derived.Test.YtkcdoacojiilaaaGreatKb
import Derived.Test.YtkcdoacojiilaaaGreatKa
namespace Go.Proofs.YtkcdoacojiilaaaGreat
open Go.RowKit
set_option maxRecDepth 100000

set_option maxHeartbeats 1000000 in
theorem impl_ImageValid_c (W : Int) (A : Option Addr) (n c : Nat) (xs : List Int) (w : World) (hr : Rd w A n xs) (hn : n ≤ 1125899906842624) :
    Calls Tryz.prog 26 #[.agg #[.int .i64 W, .slice A n c]] w fun e w' => e = .returned (.bool (okB W xs)) ∧ Below w.heap.size w w' := by
  by_cases h : 1 ≤ W ∧ W ≤ 6 ∧ 1 ≤ n ∧ n ≤ 6
  case neg =>
    have hF := Lib.hid (okB_no (W := W) (xs := xs) (by rw [hr.1]; exact h))
    by_cases h1 : W < 1
    · clear h
      go_enter Tryz.func26, Tryz.ntmps26
      go_wp2
      go_ret
      exact ⟨ret_bool hF.out.symm, by (repeat (first | exact Below.refl _ _ | assumption | refine lo_alloc ?_ _ | refine lo_set ?_ (by simp; try omega) _ | refine Below.drew ?_ | refine below_drewN ?_ _ | refine lo_trans ?_ (by assumption) | refine lo_wr ?_ (by assumption) (by omega)))⟩
    · by_cases h2 : 6 < W
      · clear h
        go_enter Tryz.func26, Tryz.ntmps26
        go_wp2
        go_ret
        exact ⟨ret_bool hF.out.symm, by (repeat (first | exact Below.refl _ _ | assumption | refine lo_alloc ?_ _ | refine lo_set ?_ (by simp; try omega) _ | refine Below.drew ?_ | refine below_drewN ?_ _ | refine lo_trans ?_ (by assumption) | refine lo_wr ?_ (by assumption) (by omega)))⟩
      · by_cases h3 : n < 1
        · clear h
          go_enter Tryz.func26, Tryz.ntmps26
          go_wp2
          go_ret
          exact ⟨ret_bool hF.out.symm, by (repeat (first | exact Below.refl _ _ | assumption | refine lo_alloc ?_ _ | refine lo_set ?_ (by simp; try omega) _ | refine Below.drew ?_ | refine below_drewN ?_ _ | refine lo_trans ?_ (by assumption) | refine lo_wr ?_ (by assumption) (by omega)))⟩
        · have h4 : 6 < n := by omega
          clear h
          go_enter Tryz.func26, Tryz.ntmps26
          go_wp2
          go_ret
          exact ⟨ret_bool hF.out.symm, by (repeat (first | exact Below.refl _ _ | assumption | refine lo_alloc ?_ _ | refine lo_set ?_ (by simp; try omega) _ | refine Below.drew ?_ | refine below_drewN ?_ _ | refine lo_trans ?_ (by assumption) | refine lo_wr ?_ (by assumption) (by omega)))⟩
  have hE := Lib.hid (okB_eq (W := W) (xs := xs) (by rw [hr.1]; exact h))
  obtain ⟨hW1, hW2, hn1, hn2⟩ := h
  obtain ⟨q, rfl⟩ := Int.eq_ofNat_of_zero_le (show 0 ≤ W by omega)
  rw [Int.toNat_natCast] at hE
  have hp := pow_int (j := q) (by omega)
  go_enter Tryz.func26, Tryz.ntmps26
  go_wp2
  go_loop [28] (fun i => ∃ k : Nat, k ≤ n ∧ i = .int .i64 k ∧ Hid (∀ j, j < k → 0 ≤ xs[j]?.getD 0 ∧ xs[j]?.getD 0 ≤ 2 ^ q - 1)) (fun i => n - (intOf i).toNat)
  case atStart => exact ⟨0, Nat.zero_le _, rfl, Lib.hid (fun j h => absurd h (by omega))⟩
  case round =>
    obtain ⟨k, hk, rfl, hall⟩ := hrel
    by_cases hlt : k < n
    · obtain ⟨b, off, rfl, hb, hc⟩ := (hr.alloc (.cells #[.int .i64 q, .slice A n c] 27)).at_ hlt
      by_cases h1 : xs[k]?.getD 0 < 0
      · have hF := Lib.hid (show okB q xs = false by rw [hE.out]; exact allIn_no (by rw [hr.1]; exact hlt) (by omega))
        go_wp2
        go_ret
        exact ⟨ret_bool hF.out.symm, by (repeat (first | exact Below.refl _ _ | assumption | refine lo_alloc ?_ _ | refine lo_set ?_ (by simp; try omega) _ | refine Below.drew ?_ | refine below_drewN ?_ _ | refine lo_trans ?_ (by assumption) | refine lo_wr ?_ (by assumption) (by omega)))⟩
      · by_cases h2 : 2 ^ q ≤ xs[k]?.getD 0
        · have hF := Lib.hid (show okB q xs = false by rw [hE.out]; exact allIn_no (by rw [hr.1]; exact hlt) (by omega))
          go_wp2
          go_ret
          exact ⟨ret_bool hF.out.symm, by (repeat (first | exact Below.refl _ _ | assumption | refine lo_alloc ?_ _ | refine lo_set ?_ (by simp; try omega) _ | refine Below.drew ?_ | refine below_drewN ?_ _ | refine lo_trans ?_ (by assumption) | refine lo_wr ?_ (by assumption) (by omega)))⟩
        · have hN : Hid (∀ j, j < k + 1 → 0 ≤ xs[j]?.getD 0 ∧ xs[j]?.getD 0 ≤ 2 ^ q - 1) := Lib.hid (fun j hj => by
            rcases Nat.lt_or_ge j k with h | h
            · exact hall.out j h
            · obtain rfl : j = k := by omega
              omega)
          go_wp2
          go_round
          case rel => exact ⟨k + 1, by omega, by go_num, hN⟩
          case measure => simp [intOf]; omega
    · obtain rfl : k = n := by omega
      have hF := Lib.hid (show okB q xs = true by rw [hE.out]; exact allIn_of (by rw [hr.1]; exact hall.out))
      go_wp2
      go_ret
      exact ⟨ret_bool hF.out.symm, by (repeat (first | exact Below.refl _ _ | assumption | refine lo_alloc ?_ _ | refine lo_set ?_ (by simp; try omega) _ | refine Below.drew ?_ | refine below_drewN ?_ _ | refine lo_trans ?_ (by assumption) | refine lo_wr ?_ (by assumption) (by omega)))⟩

set_option maxHeartbeats 1000000 in
theorem spec_ImageValid_c (W : Int) (A : Option Addr) (n c : Nat) (xs : List Int) (w : World) (hr : Rd w A n xs) (hn : n ≤ 1125899906842624) :
    Calls Tryz.prog 61 #[.agg #[.int .i64 W, .slice A n c]] w fun e w' => e = .returned (.bool (okB W xs)) ∧ Below w.heap.size w w' := by
  by_cases h : 1 ≤ W ∧ W ≤ 6 ∧ 1 ≤ n ∧ n ≤ 6
  case neg =>
    have hF := Lib.hid (okB_no (W := W) (xs := xs) (by rw [hr.1]; exact h))
    by_cases h1 : 1 ≤ W ∧ W ≤ 6
    · have h2 : (n : Int) < 1 ∨ 6 < (n : Int) := by omega
      have h2' := Lib.hid h2
      clear h h2
      go_enter Tryz.func61, Tryz.ntmps61
      go_wp2_with fail
      refine (l6In_t _ h1).mono ?_; rintro e w' ⟨rfl, rfl⟩
      go_wp2_with fail
      refine (l6In_f _ h2'.out).mono ?_; rintro e w' ⟨rfl, rfl⟩
      go_wp2
      go_ret
      exact ⟨ret_bool hF.out.symm, by (repeat (first | exact Below.refl _ _ | assumption | refine lo_alloc ?_ _ | refine lo_set ?_ (by simp; try omega) _ | refine Below.drew ?_ | refine below_drewN ?_ _ | refine lo_trans ?_ (by assumption) | refine lo_wr ?_ (by assumption) (by omega)))⟩
    · have h2' := Lib.hid (show W < 1 ∨ 6 < W by omega)
      clear h h1
      go_enter Tryz.func61, Tryz.ntmps61
      go_wp2_with fail
      refine (l6In_f _ h2'.out).mono ?_; rintro e w' ⟨rfl, rfl⟩
      go_wp2
      go_ret
      exact ⟨ret_bool hF.out.symm, by (repeat (first | exact Below.refl _ _ | assumption | refine lo_alloc ?_ _ | refine lo_set ?_ (by simp; try omega) _ | refine Below.drew ?_ | refine below_drewN ?_ _ | refine lo_trans ?_ (by assumption) | refine lo_wr ?_ (by assumption) (by omega)))⟩
  have hE := Lib.hid (okB_eq (W := W) (xs := xs) (by rw [hr.1]; exact h))
  obtain ⟨hW1, hW2, hn1, hn2⟩ := h
  obtain ⟨q, rfl⟩ := Int.eq_ofNat_of_zero_le (show 0 ≤ W by omega)
  rw [Int.toNat_natCast] at hE
  have hp := pow_int (j := q) (by omega)
  go_enter Tryz.func61, Tryz.ntmps61
  go_wp2_with fail
  refine (l6In_t _ (by omega)).mono ?_; rintro e w' ⟨rfl, rfl⟩
  go_wp2_with fail
  refine (l6In_t _ (by omega)).mono ?_; rintro e w' ⟨rfl, rfl⟩
  have hk0 := Blk.new w 27 #[.int .i64 q, .slice A n c]
  have hb0 := lo_alloc (Below.refl w.heap.size w) (.cells #[.int .i64 q, .slice A n c] 27)
  go_wp2
  go_loopw [3] (fun i wr => ∃ k : Nat, k ≤ n ∧ i = .int .i64 k ∧ Below w.heap.size w wr ∧ Blk wr w.heap.size 27 #[.int .i64 q, .slice A n c] ∧ Hid (∀ j, j < k → 0 ≤ xs[j]?.getD 0 ∧ xs[j]?.getD 0 ≤ 2 ^ q - 1)) (fun i _ => n - (intOf i).toNat)
  case atStart => exact ⟨0, Nat.zero_le _, rfl, hb0, hk0, Lib.hid (fun j h => absurd h (by omega))⟩
  case round =>
    clear hk0 hb0
    obtain ⟨k, hk, rfl, hB, hK, hall⟩ := hrel
    have c0 := hK.cell 0
    have c1 := hK.cell 1
    by_cases hlt : k < n
    · obtain ⟨b, off, rfl, hb, hc⟩ := (hr.next hB).at_ hlt
      by_cases h1 : 0 ≤ xs[k]?.getD 0 ∧ xs[k]?.getD 0 ≤ 2 ^ q - 1
      · have hN : Hid (∀ j, j < k + 1 → 0 ≤ xs[j]?.getD 0 ∧ xs[j]?.getD 0 ≤ 2 ^ q - 1) := Lib.hid (fun j hj => by
            rcases Nat.lt_or_ge j k with h | h
            · exact hall.out j h
            · obtain rfl : j = k := by omega
              omega)
        go_wp2
        go_quiet ((first | (go_at_call 65; exact Calls.quiet_of_same (still_of (l1Power_c q _ (by omega) (by omega)))) | (go_at_call 42; exact Calls.quiet_of_same (still_of (l6In_t _ h1)))))
        go_wp2
        go_roundw
        case rel => exact ⟨k + 1, by omega, by go_num, below_drewN hB _, hK.drewN _, hN⟩
        case measure => simp [intOf]; omega
      · have h2 : xs[k]?.getD 0 < 0 ∨ 2 ^ q - 1 < xs[k]?.getD 0 := by omega
        have h2' := Lib.hid h2
        have hF := Lib.hid (show okB q xs = false by rw [hE.out]; exact allIn_no (by rw [hr.1]; exact hlt) h1)
        clear h1 h2
        go_wp2
        go_quiet ((first | (go_at_call 65; exact Calls.quiet_of_same (still_of (l1Power_c q _ (by omega) (by omega)))) | (go_at_call 42; exact Calls.quiet_of_same (still_of (l6In_f _ h2'.out)))))
        go_wp2
        go_ret
        exact ⟨ret_bool hF.out.symm, below_drewN hB _⟩
    · obtain rfl : k = n := by omega
      have hF := Lib.hid (show okB q xs = true by rw [hE.out]; exact allIn_of (by rw [hr.1]; exact hall.out))
      go_wp2
      go_ret
      exact ⟨ret_bool hF.out.symm, hB⟩

set_option maxHeartbeats 1000000 in
theorem sameImage_c (W V : Int) (A B : Option Addr) (n m c d : Nat) (xs ys : List Int) (w : World) (hr : Rd w A n xs) (hs : Rd w B m ys) (hn : n ≤ 1073741824) :
    Calls Tryz.prog 31 #[.agg #[.int .i64 W, .slice A n c], .agg #[.int .i64 V, .slice B m d]] w fun e w' => e = .returned (.bool (decide (W = V) && decide (xs = ys))) ∧ Below w.heap.size w w' := by
  by_cases h : W = V
  · have h' : (W == V) = true := beq_iff_eq.2 h
    have hh := Lib.hid h; clear h
    go_enter Tryz.func31, Tryz.ntmps31
    go_wp2_with fail
    refine (slicesEqual_c _ _ _ _ _ _ xs ys _ ((hr.alloc _).alloc _) ((hs.alloc _).alloc _) hn).mono ?_
    rintro e w1 ⟨rfl, hb⟩
    go_wp2
    go_ret
    exact ⟨ret_bool (by rw [hh.out]; simp), by (repeat (first | exact Below.refl _ _ | assumption | refine lo_alloc ?_ _ | refine lo_set ?_ (by simp; try omega) _ | refine Below.drew ?_ | refine below_drewN ?_ _ | refine lo_trans ?_ (by assumption) | refine lo_wr ?_ (by assumption) (by omega)))⟩
  · have h' : (W == V) = false := beq_eq_false_iff_ne.2 h
    have hh := Lib.hid h; clear h
    go_enter Tryz.func31, Tryz.ntmps31
    go_wp2
    go_ret
    exact ⟨ret_bool (by simp [hh.out]), by (repeat (first | exact Below.refl _ _ | assumption | refine lo_alloc ?_ _ | refine lo_set ?_ (by simp; try omega) _ | refine Below.drew ?_ | refine below_drewN ?_ _ | refine lo_trans ?_ (by assumption) | refine lo_wr ?_ (by assumption) (by omega)))⟩

end Go.Proofs.YtkcdoacojiilaaaGreat
