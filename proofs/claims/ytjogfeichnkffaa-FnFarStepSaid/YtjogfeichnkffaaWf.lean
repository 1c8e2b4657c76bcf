
/- Walks: functions that compare. -/
import Derived.Test.YtjogfeichnkffaaWa
namespace Go.Proofs.Ytjogfeichnkffaa
open Go.RowKit

theorem list_ext0 {xs ys : List Int} (h : xs.length = ys.length) (e : ∀ j, j < xs.length → xs[j]?.getD 0 = ys[j]?.getD 0) : xs = ys := by
  apply List.ext_getElem h
  intro i h1 h2
  simpa [List.getElem?_eq_getElem h1, List.getElem?_eq_getElem h2] using e i h1

set_option maxHeartbeats 400000 in
theorem sameInts_c (A B : Option Addr) (n m c d : Nat) (xs ys : List Int) (w : World) (hr : Rd w A n xs) (hs : Rd w B m ys) (hn : n ≤ 1073741824) :
    Calls Try.prog 43 #[.slice A n c, .slice B m d] w fun e w' => e = .returned (.bool (decide (xs = ys))) ∧ Below w.heap.size w w' := by
  by_cases hnm : n = m
  case neg =>
    have hF : (decide (xs = ys)) = false := by
      rw [decide_eq_false_iff_not]; intro e; exact hnm (by rw [← hr.1, ← hs.1, e])
    have hF' := Lib.hid hF; clear hF
    have hnm' : ((n : Int) != m) = true := by simp; omega
    go_enter Try.func43, Try.ntmps43
    go_wp2
    go_ret
    exact ⟨ret_bool hF'.out.symm, Below.refl _ _⟩
  subst hnm
  go_enter Try.func43, Try.ntmps43
  go_wp2
  go_loopw [5] (fun i wr => ∃ k : Nat, k ≤ n ∧ i = .int .i64 k ∧ Below w.heap.size w wr ∧ Hid (∀ j, j < k → xs[j]?.getD 0 = ys[j]?.getD 0)) (fun i _ => n - (intOf i).toNat)
  case atStart => exact ⟨0, Nat.zero_le _, rfl, Below.refl _ _, Lib.hid (fun j h => absurd h (by omega))⟩
  case round =>
    obtain ⟨k, hk, rfl, hbl, hall⟩ := hrel
    by_cases hlt : k < n
    · obtain ⟨b, off, rfl, hb, hc⟩ := (hr.next hbl).at_ hlt
      obtain ⟨b', off', rfl, hb', hc'⟩ := (hs.next hbl).at_ hlt
      by_cases he : xs[k]?.getD 0 = ys[k]?.getD 0
      · have he' : (xs[k]?.getD 0 != ys[k]?.getD 0) = false := by simp [he]
        have hN : Hid (∀ j, j < k + 1 → xs[j]?.getD 0 = ys[j]?.getD 0) := Lib.hid (fun j hj => by
          rcases Nat.lt_or_ge j k with h | h
          · exact hall.out j h
          · obtain rfl : j = k := by omega
            exact he)
        clear he
        go_wp2
        go_quiet (fail)
        go_wp2
        go_roundw
        case rel => exact ⟨k + 1, by omega, by go_num, below_drewN hbl _, hN⟩
        case measure => simp [intOf]; omega
      · have he' : (xs[k]?.getD 0 != ys[k]?.getD 0) = true := by simp [he]
        have hF : Hid ((decide (xs = ys)) = false) := Lib.hid (by
          rw [decide_eq_false_iff_not]; intro e; exact he (by rw [e]))
        clear he
        go_wp2
        go_quiet (fail)
        go_wp2
        go_ret
        exact ⟨ret_bool hF.out.symm, below_drewN hbl _⟩
    · obtain rfl : k = n := by omega
      have hF : Hid ((decide (xs = ys)) = true) := Lib.hid (by
        rw [decide_eq_true_eq]; exact list_ext0 (by rw [hr.1, hs.1]) (fun j hj => hall.out j (by rw [hr.1] at hj; exact hj)))
      go_wp2
      go_ret
      exact ⟨ret_bool hF.out.symm, hbl⟩

set_option maxHeartbeats 400000 in
theorem lsameImage_t (W : Int) (A B : Option Addr) (n m c d : Nat) (xs : List Int) (w : World) (hr : Rd w A n xs) (hs : Rd w B m xs) (hn : n ≤ 1073741824) :
    Calls Try.prog 21 #[.agg #[.int .i64 W, .slice A n c], .agg #[.int .i64 W, .slice B m d]] w fun e w' => e = .returned (.bool true) ∧ Below w.heap.size w w' := by
  go_enter Try.func21, Try.ntmps21
  go_wp2_with fail
  refine (sameInts_c _ _ _ _ _ _ xs xs _ ((hr.alloc _).alloc _) ((hs.alloc _).alloc _) hn).mono ?_
  rw [decide_eq_true (rfl : xs = xs)]
  rintro e w1 ⟨rfl, hb⟩
  go_wp2
  go_ret
  exact ⟨rfl, by (repeat (first | exact Below.refl _ _ | assumption | refine lo_alloc ?_ _ | refine lo_set ?_ (by simp; try omega) _ | refine Below.drew ?_ | refine below_drewN ?_ _ | refine lo_trans ?_ (by assumption) | refine lo_wr ?_ (by assumption) (by omega)))⟩
end Go.Proofs.Ytjogfeichnkffaa
