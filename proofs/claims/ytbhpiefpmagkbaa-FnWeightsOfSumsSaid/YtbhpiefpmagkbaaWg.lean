
/- Walks: is an image valid, the program's function and the reference's. -/
import Derived.Test.YtbhpiefpmagkbaaKc
import Derived.Test.YtbhpiefpmagkbaaKb
import Derived.Test.YtbhpiefpmagkbaaKa
namespace Go.Proofs.Ytbhpiefpmagkbaa
open Go.RowKit

set_option maxHeartbeats 1000000 in
theorem impl_ImageValid_c (W : Int) (A : Option Addr) (n c : Nat) (xs : List Int) (w : World) (hr : Rd w A n xs) (hn : n ≤ 1125899906842624) :
    Calls Try.prog 35 #[.agg #[.int .i64 W, .slice A n c]] w fun e w' => e = .returned (.bool (okB W xs)) ∧ Below w.heap.size w w' := by
  by_cases h : 1 ≤ W ∧ W ≤ 6 ∧ 1 ≤ n ∧ n ≤ 6
  case neg =>
    have hF := Lib.hid (okB_no (W := W) (xs := xs) (by rw [hr.1]; exact h))
    by_cases h1 : W < 1
    · clear h
      go_enter Try.func35, Try.ntmps35
      go_wp2
      go_ret
      exact ⟨ret_bool hF.out.symm, by (repeat (first | exact Below.refl _ _ | assumption | refine lo_alloc ?_ _ | refine lo_set ?_ (by simp; try omega) _ | refine Below.drew ?_ | refine below_drewN ?_ _ | refine lo_trans ?_ (by assumption) | refine lo_wr ?_ (by assumption) (by omega)))⟩
    · by_cases h2 : 6 < W
      · clear h
        go_enter Try.func35, Try.ntmps35
        go_wp2
        go_ret
        exact ⟨ret_bool hF.out.symm, by (repeat (first | exact Below.refl _ _ | assumption | refine lo_alloc ?_ _ | refine lo_set ?_ (by simp; try omega) _ | refine Below.drew ?_ | refine below_drewN ?_ _ | refine lo_trans ?_ (by assumption) | refine lo_wr ?_ (by assumption) (by omega)))⟩
      · by_cases h3 : n < 1
        · clear h
          go_enter Try.func35, Try.ntmps35
          go_wp2
          go_ret
          exact ⟨ret_bool hF.out.symm, by (repeat (first | exact Below.refl _ _ | assumption | refine lo_alloc ?_ _ | refine lo_set ?_ (by simp; try omega) _ | refine Below.drew ?_ | refine below_drewN ?_ _ | refine lo_trans ?_ (by assumption) | refine lo_wr ?_ (by assumption) (by omega)))⟩
        · have h4 : 6 < n := by omega
          clear h
          go_enter Try.func35, Try.ntmps35
          go_wp2
          go_ret
          exact ⟨ret_bool hF.out.symm, by (repeat (first | exact Below.refl _ _ | assumption | refine lo_alloc ?_ _ | refine lo_set ?_ (by simp; try omega) _ | refine Below.drew ?_ | refine below_drewN ?_ _ | refine lo_trans ?_ (by assumption) | refine lo_wr ?_ (by assumption) (by omega)))⟩
  have hE := Lib.hid (okB_eq (W := W) (xs := xs) (by rw [hr.1]; exact h))
  obtain ⟨hW1, hW2, hn1, hn2⟩ := h
  obtain ⟨q, rfl⟩ := Int.eq_ofNat_of_zero_le (show 0 ≤ W by omega)
  rw [Int.toNat_natCast] at hE
  have hp := pow_int (j := q) (by omega)
  go_enter Try.func35, Try.ntmps35
  go_wp2
  go_loop [28] (fun i => ∃ k : Nat, k ≤ n ∧ i = .int .i64 k ∧ Hid (∀ j, j < k → 0 ≤ xs[j]?.getD 0 ∧ xs[j]?.getD 0 ≤ 2 ^ q - 1)) (fun i => n - (intOf i).toNat)
  case atStart => exact ⟨0, Nat.zero_le _, rfl, Lib.hid (fun j h => absurd h (by omega))⟩
  case round =>
    obtain ⟨k, hk, rfl, hall⟩ := hrel
    by_cases hlt : k < n
    · obtain ⟨b, off, rfl, hb, hc⟩ := (hr.alloc (.cells #[.int .i64 q, .slice A n c] 28)).at_ hlt
      by_cases h1 : xs[k]?.getD 0 < 0
      · have hF := Lib.hid (show okB q xs = false by rw [hE.out]; exact allIn_no (by rw [hr.1]; exact hlt) (by omega))
        go_wp2
        go_ret
        exact ⟨ret_bool hF.out.symm, by (repeat (first | exact Below.refl _ _ | assumption | refine lo_alloc ?_ _ | refine lo_set ?_ (by simp; try omega) _ | refine Below.drew ?_ | refine below_drewN ?_ _ | refine lo_trans ?_ (by assumption) | refine lo_wr ?_ (by assumption) (by omega)))⟩
      · by_cases h2 : 2 ^ q ≤ xs[k]?.getD 0
        · have hF := Lib.hid (show okB q xs = false by rw [hE.out]; exact allIn_no (by rw [hr.1]; exact hlt) (by omega))
          go_wp2
          go_ret
          exact ⟨ret_bool hF.out.symm, by (repeat (first | exact Below.refl _ _ | assumption | refine lo_alloc ?_ _ | refine lo_set ?_ (by simp; try omega) _ | refine Below.drew ?_ | refine below_drewN ?_ _ | refine lo_trans ?_ (by assumption) | refine lo_wr ?_ (by assumption) (by omega)))⟩
        · have hN : Hid (∀ j, j < k + 1 → 0 ≤ xs[j]?.getD 0 ∧ xs[j]?.getD 0 ≤ 2 ^ q - 1) := Lib.hid (fun j hj => by
            rcases Nat.lt_or_ge j k with h | h
            · exact hall.out j h
            · obtain rfl : j = k := by omega
              omega)
          go_wp2
          go_round
          case rel => exact ⟨k + 1, by omega, by go_num, hN⟩
          case measure => simp [intOf]; omega
    · obtain rfl : k = n := by omega
      have hF := Lib.hid (show okB q xs = true by rw [hE.out]; exact allIn_of (by rw [hr.1]; exact hall.out))
      go_wp2
      go_ret
      exact ⟨ret_bool hF.out.symm, by (repeat (first | exact Below.refl _ _ | assumption | refine lo_alloc ?_ _ | refine lo_set ?_ (by simp; try omega) _ | refine Below.drew ?_ | refine below_drewN ?_ _ | refine lo_trans ?_ (by assumption) | refine lo_wr ?_ (by assumption) (by omega)))⟩

set_option maxHeartbeats 1000000 in
theorem spec_ImageValid_c (W : Int) (A : Option Addr) (n c : Nat) (xs : List Int) (w : World) (hr : Rd w A n xs) (hn : n ≤ 1125899906842624) :
    Calls Try.prog 44 #[.agg #[.int .i64 W, .slice A n c]] w fun e w' => e = .returned (.bool (okB W xs)) ∧ Below w.heap.size w w' := by
  by_cases h : 1 ≤ W ∧ W ≤ 6 ∧ 1 ≤ n ∧ n ≤ 6
  case neg =>
    have hF := Lib.hid (okB_no (W := W) (xs := xs) (by rw [hr.1]; exact h))
    by_cases h1 : 1 ≤ W ∧ W ≤ 6
    · have h2 : (n : Int) < 1 ∨ 6 < (n : Int) := by omega
      have h2' := Lib.hid h2
      clear h h2
      go_enter Try.func44, Try.ntmps44
      go_wp2_with fail
      refine (l6In_t _ h1).mono ?_; rintro e w' ⟨rfl, rfl⟩
      go_wp2_with fail
      refine (l6In_f _ h2'.out).mono ?_; rintro e w' ⟨rfl, rfl⟩
      go_wp2
      go_ret
      exact ⟨ret_bool hF.out.symm, by (repeat (first | exact Below.refl _ _ | assumption | refine lo_alloc ?_ _ | refine lo_set ?_ (by simp; try omega) _ | refine Below.drew ?_ | refine below_drewN ?_ _ | refine lo_trans ?_ (by assumption) | refine lo_wr ?_ (by assumption) (by omega)))⟩
    · have h2' := Lib.hid (show W < 1 ∨ 6 < W by omega)
      clear h h1
      go_enter Try.func44, Try.ntmps44
      go_wp2_with fail
      refine (l6In_f _ h2'.out).mono ?_; rintro e w' ⟨rfl, rfl⟩
      go_wp2
      go_ret
      exact ⟨ret_bool hF.out.symm, by (repeat (first | exact Below.refl _ _ | assumption | refine lo_alloc ?_ _ | refine lo_set ?_ (by simp; try omega) _ | refine Below.drew ?_ | refine below_drewN ?_ _ | refine lo_trans ?_ (by assumption) | refine lo_wr ?_ (by assumption) (by omega)))⟩
  have hE := Lib.hid (okB_eq (W := W) (xs := xs) (by rw [hr.1]; exact h))
  obtain ⟨hW1, hW2, hn1, hn2⟩ := h
  obtain ⟨q, rfl⟩ := Int.eq_ofNat_of_zero_le (show 0 ≤ W by omega)
  rw [Int.toNat_natCast] at hE
  have hp := pow_int (j := q) (by omega)
  go_enter Try.func44, Try.ntmps44
  go_wp2_with fail
  refine (l6In_t _ (by omega)).mono ?_; rintro e w' ⟨rfl, rfl⟩
  go_wp2_with fail
  refine (l6In_t _ (by omega)).mono ?_; rintro e w' ⟨rfl, rfl⟩
  have hk0 := Blk.new w 28 #[.int .i64 q, .slice A n c]
  have hb0 := lo_alloc (Below.refl w.heap.size w) (.cells #[.int .i64 q, .slice A n c] 28)
  go_wp2
  go_loopw [3] (fun i wr => ∃ k : Nat, k ≤ n ∧ i = .int .i64 k ∧ Below w.heap.size w wr ∧ Blk wr w.heap.size 28 #[.int .i64 q, .slice A n c] ∧ Hid (∀ j, j < k → 0 ≤ xs[j]?.getD 0 ∧ xs[j]?.getD 0 ≤ 2 ^ q - 1)) (fun i _ => n - (intOf i).toNat)
  case atStart => exact ⟨0, Nat.zero_le _, rfl, hb0, hk0, Lib.hid (fun j h => absurd h (by omega))⟩
  case round =>
    clear hk0 hb0
    obtain ⟨k, hk, rfl, hB, hK, hall⟩ := hrel
    have c0 := hK.cell 0
    have c1 := hK.cell 1
    by_cases hlt : k < n
    · obtain ⟨b, off, rfl, hb, hc⟩ := (hr.next hB).at_ hlt
      by_cases h1 : 0 ≤ xs[k]?.getD 0 ∧ xs[k]?.getD 0 ≤ 2 ^ q - 1
      · have hN : Hid (∀ j, j < k + 1 → 0 ≤ xs[j]?.getD 0 ∧ xs[j]?.getD 0 ≤ 2 ^ q - 1) := Lib.hid (fun j hj => by
            rcases Nat.lt_or_ge j k with h | h
            · exact hall.out j h
            · obtain rfl : j = k := by omega
              omega)
        go_wp2
        go_quiet ((first | (go_at_call 61; exact Calls.quiet_of_same (still_of (l1Power_c q _ (by omega) (by omega)))) | (go_at_call 63; exact Calls.quiet_of_same (still_of (l6In_t _ h1)))))
        go_wp2
        go_roundw
        case rel => exact ⟨k + 1, by omega, by go_num, below_drewN hB _, hK.drewN _, hN⟩
        case measure => simp [intOf]; omega
      · have h2 : xs[k]?.getD 0 < 0 ∨ 2 ^ q - 1 < xs[k]?.getD 0 := by omega
        have h2' := Lib.hid h2
        have hF := Lib.hid (show okB q xs = false by rw [hE.out]; exact allIn_no (by rw [hr.1]; exact hlt) h1)
        clear h1 h2
        go_wp2
        go_quiet ((first | (go_at_call 61; exact Calls.quiet_of_same (still_of (l1Power_c q _ (by omega) (by omega)))) | (go_at_call 63; exact Calls.quiet_of_same (still_of (l6In_f _ h2'.out)))))
        go_wp2
        go_ret
        exact ⟨ret_bool hF.out.symm, below_drewN hB _⟩
    · obtain rfl : k = n := by omega
      have hF := Lib.hid (show okB q xs = true by rw [hE.out]; exact allIn_of (by rw [hr.1]; exact hall.out))
      go_wp2
      go_ret
      exact ⟨ret_bool hF.out.symm, hB⟩

set_option maxHeartbeats 1000000 in
theorem sameImage_c (W V : Int) (A B : Option Addr) (n m c d : Nat) (xs ys : List Int) (w : World) (hr : Rd w A n xs) (hs : Rd w B m ys) (hn : n ≤ 1073741824) :
    Calls Try.prog 43 #[.agg #[.int .i64 W, .slice A n c], .agg #[.int .i64 V, .slice B m d]] w fun e w' => e = .returned (.bool (decide (W = V) && decide (xs = ys))) ∧ Below w.heap.size w w' := by
  by_cases h : W = V
  · have h' : (W == V) = true := beq_iff_eq.2 h
    have hh := Lib.hid h; clear h
    go_enter Try.func43, Try.ntmps43
    go_wp2_with fail
    refine (slicesEqual_c _ _ _ _ _ _ xs ys _ ((hr.alloc _).alloc _) ((hs.alloc _).alloc _) hn).mono ?_
    rintro e w1 ⟨rfl, hb⟩
    go_wp2
    go_ret
    exact ⟨ret_bool (by rw [hh.out]; simp), by (repeat (first | exact Below.refl _ _ | assumption | refine lo_alloc ?_ _ | refine lo_set ?_ (by simp; try omega) _ | refine Below.drew ?_ | refine below_drewN ?_ _ | refine lo_trans ?_ (by assumption) | refine lo_wr ?_ (by assumption) (by omega)))⟩
  · have h' : (W == V) = false := beq_eq_false_iff_ne.2 h
    have hh := Lib.hid h; clear h
    go_enter Try.func43, Try.ntmps43
    go_wp2
    go_ret
    exact ⟨ret_bool (by simp [hh.out]), by (repeat (first | exact Below.refl _ _ | assumption | refine lo_alloc ?_ _ | refine lo_set ?_ (by simp; try omega) _ | refine Below.drew ?_ | refine below_drewN ?_ _ | refine lo_trans ?_ (by assumption) | refine lo_wr ?_ (by assumption) (by omega)))⟩

set_option maxHeartbeats 1000000 in
theorem impl_WeightsFit_c (W : Int) (C A B : Option Addr) (l e n c m d : Nat) (xs p q : List Int) (w : World) (hx : Rd w C l xs) (hp : Rd w A n p) (hq : Rd w B m q) (hl : l ≤ 1073741824) (hn : n ≤ 1073741824) (hm : m ≤ 1073741824) :
    Calls Try.prog 23 #[.agg #[.int .i64 W, .slice C l e], .slice A n c, .slice B m d] w fun e w' => e = .returned (.bool (wFit W xs p q)) ∧ Below w.heap.size w w' := by
  have hF := Lib.hid (show wFit W xs p q = (wOk p q && okB W xs && decide (W = wW p q) && decide (xs = wX p q)) from rfl)
  go_enter Try.func23, Try.ntmps23
  go_wp2_with fail
  refine (impl_WeightsImage_c _ _ _ _ _ _ p q _ (hp.alloc _) (hq.alloc _) hn hm).mono ?_
  rintro e w1 ⟨R, r, k, rfl, hb1, ho1⟩
  have hk0 : Blk w1 w.heap.size _ _ := (Blk.new w 28 #[.int .i64 W, .slice C l e]).next hb1
  have hx1 := hx.next (w' := w1) (by (repeat (first | exact Below.refl _ _ | assumption | refine lo_alloc ?_ _ | refine lo_set ?_ (by simp; try omega) _ | refine Below.drew ?_ | refine below_drewN ?_ _ | refine lo_trans ?_ (by assumption) | refine lo_wr ?_ (by assumption) (by omega))))
  have hbz := hb1.size
  cases h1 : wOk p q with
  | false =>
    go_wp2
    go_ret
    exact ⟨ret_bool (by rw [hF.out, h1]; simp), by (repeat (first | exact Below.refl _ _ | assumption | refine lo_alloc ?_ _ | refine lo_set ?_ (by simp; try omega) _ | refine Below.drew ?_ | refine below_drewN ?_ _ | refine lo_trans ?_ (by assumption) | refine lo_wr ?_ (by assumption) (by omega)))⟩
  | true =>
    have h1' := Lib.hid h1
    have c0 := (hk0.alloc (.cells #[.int .i64 (wW p q), .slice R r k] 28)).cell 0
    have c1 := (hk0.alloc (.cells #[.int .i64 (wW p q), .slice R r k] 28)).cell 1
    go_wp2_with fail
    refine (impl_ImageValid_c _ _ _ _ xs _ (hx1.alloc _) (by omega)).mono ?_
    rintro e w2 ⟨rfl, hb2⟩
    cases h2 : okB W xs with
    | false =>
      go_wp2
      go_ret
      exact ⟨ret_bool (by rw [hF.out, h1'.out, h2]; simp), by (repeat (first | exact Below.refl _ _ | assumption | refine lo_alloc ?_ _ | refine lo_set ?_ (by simp; try omega) _ | refine Below.drew ?_ | refine below_drewN ?_ _ | refine lo_trans ?_ (by assumption) | refine lo_wr ?_ (by assumption) (by omega)))⟩
    | true =>
      have h2' := Lib.hid h2
      have d0 := ((hk0.alloc (.cells #[.int .i64 (wW p q), .slice R r k] 28)).next hb2).cell 0
      have d1 := ((hk0.alloc (.cells #[.int .i64 (wW p q), .slice R r k] 28)).next hb2).cell 1
      have e0 := ((Blk.new w1 28 #[.int .i64 (wW p q), .slice R r k]).next hb2).cell 0
      have e1 := ((Blk.new w1 28 #[.int .i64 (wW p q), .slice R r k]).next hb2).cell 1
      clear c0 c1
      go_wp2_with fail
      refine (sameImage_c _ _ _ _ _ _ _ _ xs (wX p q) _ ((hx1.alloc _).next hb2) ((ho1.alloc _).next hb2).rd hl).mono ?_
      rintro e w3 ⟨rfl, hb3⟩
      go_wp2
      go_ret
      exact ⟨ret_bool (by rw [hF.out, h1'.out, h2'.out]; simp), by (repeat (first | exact Below.refl _ _ | assumption | refine lo_alloc ?_ _ | refine lo_set ?_ (by simp; try omega) _ | refine Below.drew ?_ | refine below_drewN ?_ _ | refine lo_trans ?_ (by assumption) | refine lo_wr ?_ (by assumption) (by omega)))⟩

set_option maxHeartbeats 1000000 in
theorem spec_WeightsFit_c (W : Int) (C A B : Option Addr) (l e n c m d : Nat) (xs p q : List Int) (w : World) (hx : Rd w C l xs) (hp : Rd w A n p) (hq : Rd w B m q) (hl : l ≤ 1073741824) (hn : n ≤ 1073741824) (hm : m ≤ 1073741824) :
    Calls Try.prog 24 #[.agg #[.int .i64 W, .slice C l e], .slice A n c, .slice B m d] w fun e w' => e = .returned (.bool (wFit W xs p q)) ∧ Below w.heap.size w w' := by
  have hF := Lib.hid (show wFit W xs p q = (wOk p q && okB W xs && decide (W = wW p q) && decide (xs = wX p q)) from rfl)
  go_enter Try.func24, Try.ntmps24
  go_wp2_with fail
  refine (spec_WeightsImage_c _ _ _ _ _ _ p q _ (hp.alloc _) (hq.alloc _) hn hm).mono ?_
  rintro e w1 ⟨R, r, k, rfl, hb1, ho1⟩
  have hk0 : Blk w1 w.heap.size _ _ := (Blk.new w 28 #[.int .i64 W, .slice C l e]).next hb1
  have hx1 := hx.next (w' := w1) (by (repeat (first | exact Below.refl _ _ | assumption | refine lo_alloc ?_ _ | refine lo_set ?_ (by simp; try omega) _ | refine Below.drew ?_ | refine below_drewN ?_ _ | refine lo_trans ?_ (by assumption) | refine lo_wr ?_ (by assumption) (by omega))))
  have hbz := hb1.size
  cases h1 : wOk p q with
  | false =>
    go_wp2
    go_ret
    exact ⟨ret_bool (by rw [hF.out, h1]; simp), by (repeat (first | exact Below.refl _ _ | assumption | refine lo_alloc ?_ _ | refine lo_set ?_ (by simp; try omega) _ | refine Below.drew ?_ | refine below_drewN ?_ _ | refine lo_trans ?_ (by assumption) | refine lo_wr ?_ (by assumption) (by omega)))⟩
  | true =>
    have h1' := Lib.hid h1
    have c0 := (hk0.alloc (.cells #[.int .i64 (wW p q), .slice R r k] 28)).cell 0
    have c1 := (hk0.alloc (.cells #[.int .i64 (wW p q), .slice R r k] 28)).cell 1
    go_wp2_with fail
    refine (spec_ImageValid_c _ _ _ _ xs _ (hx1.alloc _) (by omega)).mono ?_
    rintro e w2 ⟨rfl, hb2⟩
    cases h2 : okB W xs with
    | false =>
      go_wp2
      go_ret
      exact ⟨ret_bool (by rw [hF.out, h1'.out, h2]; simp), by (repeat (first | exact Below.refl _ _ | assumption | refine lo_alloc ?_ _ | refine lo_set ?_ (by simp; try omega) _ | refine Below.drew ?_ | refine below_drewN ?_ _ | refine lo_trans ?_ (by assumption) | refine lo_wr ?_ (by assumption) (by omega)))⟩
    | true =>
      have h2' := Lib.hid h2
      have d0 := ((hk0.alloc (.cells #[.int .i64 (wW p q), .slice R r k] 28)).next hb2).cell 0
      have d1 := ((hk0.alloc (.cells #[.int .i64 (wW p q), .slice R r k] 28)).next hb2).cell 1
      have e0 := ((Blk.new w1 28 #[.int .i64 (wW p q), .slice R r k]).next hb2).cell 0
      have e1 := ((Blk.new w1 28 #[.int .i64 (wW p q), .slice R r k]).next hb2).cell 1
      clear c0 c1
      by_cases h3 : W = wW p q
      · have h3' : (W == wW p q) = true := beq_iff_eq.2 h3
        have h3h := Lib.hid h3; clear h3
        go_wp2_with fail
        refine (l2Same_c _ _ _ _ _ _ xs (wX p q) _ ((hx1.alloc _).next hb2) ((ho1.alloc _).next hb2).rd hl).mono ?_
        rintro e w3 ⟨rfl, hb3⟩
        go_wp2
        go_ret
        exact ⟨ret_bool (by rw [hF.out, h1'.out, h2'.out, ← h3h.out]; simp), by (repeat (first | exact Below.refl _ _ | assumption | refine lo_alloc ?_ _ | refine lo_set ?_ (by simp; try omega) _ | refine Below.drew ?_ | refine below_drewN ?_ _ | refine lo_trans ?_ (by assumption) | refine lo_wr ?_ (by assumption) (by omega)))⟩
      · have h3' : (W == wW p q) = false := beq_eq_false_iff_ne.2 h3
        have h3h := Lib.hid h3; clear h3
        go_wp2
        go_ret
        exact ⟨ret_bool (by rw [hF.out, h1'.out, h2'.out]; simp [h3h.out]), by (repeat (first | exact Below.refl _ _ | assumption | refine lo_alloc ?_ _ | refine lo_set ?_ (by simp; try omega) _ | refine Below.drew ?_ | refine below_drewN ?_ _ | refine lo_trans ?_ (by assumption) | refine lo_wr ?_ (by assumption) (by omega)))⟩
end Go.Proofs.Ytbhpiefpmagkbaa
