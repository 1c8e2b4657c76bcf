
/- Walks: sums in range; valid sums; the total of a list. -/
import Derived.Test.YtkcdoacojiilaaaGreatKc
namespace Go.Proofs.YtkcdoacojiilaaaGreat
open Go.RowKit
set_option maxRecDepth 100000

/-- 1 to 6 numbers from 0 to hi -/
def sIn (hi : Int) (xs : List Int) : Bool := decide (1 ≤ xs.length) && decide (xs.length ≤ 6) && allIn 0 hi xs
theorem sIn_out {hi : Int} {xs : List Int} (h : sIn hi xs = true) : 1 ≤ xs.length ∧ xs.length ≤ 6 ∧ allIn 0 hi xs = true := by
  simp only [sIn, Bool.and_eq_true, decide_eq_true_eq] at h
  exact ⟨h.1.1, h.1.2, h.2⟩
theorem sIn_no {hi : Int} {xs : List Int} (h : ¬ (1 ≤ xs.length ∧ xs.length ≤ 6 ∧ allIn 0 hi xs = true)) : sIn hi xs = false := by
  cases e : sIn hi xs with
  | false => rfl
  | true => exact absurd (sIn_out e) h
theorem sIn_yes {hi : Int} {xs : List Int} (h1 : 1 ≤ xs.length) (h2 : xs.length ≤ 6) (h3 : allIn 0 hi xs = true) : sIn hi xs = true := by simp [sIn, h1, h2, h3]

set_option maxHeartbeats 1000000 in
theorem sumsInRange_c (A : Option Addr) (n c : Nat) (hi : Int) (xs : List Int) (w : World) (hr : Rd w A n xs) (hn : n ≤ 1125899906842624) :
    Calls Tryz.prog 38 #[.slice A n c, .int .i64 hi] w fun e w' => e = .returned (.bool (sIn hi xs)) ∧ w = w' := by
  have hxl := Lib.hid hr.1
  go_enter Tryz.func38, Tryz.ntmps38
  go_wp2
  go_loop [9] (fun i => ∃ k : Nat, k ≤ n ∧ i = .int .i64 k ∧ Hid (∀ j, j < k → 0 ≤ xs[j]?.getD 0 ∧ xs[j]?.getD 0 ≤ hi)) (fun i => n - (intOf i).toNat)
  case atStart => exact ⟨0, Nat.zero_le _, rfl, Lib.hid (fun j hj => absurd hj (by omega))⟩
  case round =>
    obtain ⟨k, hk, rfl, hall⟩ := hrel
    by_cases hlt : k < n
    · obtain ⟨b, off, rfl, hb, hc⟩ := hr.at_ hlt
      have hkl : k < xs.length := hxl.out ▸ hlt
      by_cases h1 : xs[k]?.getD 0 < 0
      · have H := Lib.hid (sIn_no (fun h => absurd (allIn_at h.2.2 k hkl).1 (by omega)) : sIn hi xs = false)
        clear hkl
        go_wp2
        go_ret
        exact ⟨ret_bool H.out.symm, rfl⟩
      · by_cases h2 : hi < xs[k]?.getD 0
        · have H := Lib.hid (sIn_no (fun h => absurd (allIn_at h.2.2 k hkl).2 (by omega)) : sIn hi xs = false)
          clear hkl
          go_wp2
          go_ret
          exact ⟨ret_bool H.out.symm, rfl⟩
        · clear hkl
          go_wp2
          go_round
          case rel => exact ⟨k + 1, by omega, by go_num, Lib.hid (fun j hj => by
            rcases Nat.lt_or_ge j k with h | h
            · exact hall.out j h
            · obtain rfl : j = k := by omega
              omega)⟩
          case measure => simp [intOf]; omega
    · obtain rfl : k = n := by omega
      have hA : allIn 0 hi xs = true := allIn_of (fun j hj => hall.out j (hxl.out ▸ hj))
      by_cases h1 : 1 ≤ k
      · by_cases h2 : k ≤ 6
        · have H := Lib.hid (sIn_yes (hxl.out ▸ h1) (hxl.out ▸ h2) hA)
          clear hA
          go_wp2
          go_ret
          exact ⟨ret_bool (by rw [H.out]; simp; omega), rfl⟩
        · have H := Lib.hid (sIn_no (fun h => h2 (hxl.out ▸ h.2.1)) : sIn hi xs = false)
          clear hA
          go_wp2
          go_ret
          exact ⟨ret_bool (by rw [H.out]; simp; omega), rfl⟩
      · have H := Lib.hid (sIn_no (fun h => h1 (hxl.out ▸ h.1)) : sIn hi xs = false)
        have h10 : k = 0 := by omega
        subst h10
        clear hA
        go_wp2
        go_ret
        exact ⟨ret_bool (by rw [H.out]), rfl⟩

/-- SumsValid -/
def sV (rows cols : List Int) : Bool := sIn (cols.length : Int) rows && sIn (rows.length : Int) cols
set_option maxHeartbeats 1000000 in
theorem SumsValid_c (A B : Option Addr) (n m c d : Nat) (xs ys : List Int) (w : World) (hr : Rd w A n xs) (hs : Rd w B m ys) (hn : n ≤ 1125899906842624) (hm : m ≤ 1125899906842624) :
    Calls Tryz.prog 14 #[.slice A n c, .slice B m d] w fun e w' => e = .returned (.bool (sV xs ys)) ∧ w = w' := by
  have hT := Lib.hid (show sV xs ys = (sIn (m : Int) xs && sIn (n : Int) ys) by rw [sV, hr.1, hs.1])
  cases h1 : sIn (m : Int) xs with
  | false =>
    have hT2 := Lib.hid (hT.out.trans (by rw [h1]; rfl : _ = false))
    go_enter Tryz.func14, Tryz.ntmps14
    go_wp2_with (go_at_call 38; refine (sumsInRange_c _ _ _ _ xs _ hr hn).mono ?_; rw [h1]; rintro e w' ⟨rfl, rfl⟩)
    go_ret
    exact ⟨by rw [hT2.out]; rfl, rfl⟩
  | true =>
    have hT2 := Lib.hid (hT.out.trans (by rw [h1]; rfl : _ = sIn (n : Int) ys))
    go_enter Tryz.func14, Tryz.ntmps14
    go_wp2_with fail
    refine (sumsInRange_c _ _ _ _ xs _ hr hn).mono ?_
    rw [h1]
    rintro e w' ⟨rfl, rfl⟩
    clear h1
    go_wp2_with fail
    refine (sumsInRange_c _ _ _ _ ys _ hs hm).mono ?_
    rintro e w' ⟨rfl, rfl⟩
    go_wp2
    go_ret
    exact ⟨by rw [hT2.out]; rfl, rfl⟩

theorem sum_snoc (xs : List Int) {k : Nat} (hk : k < xs.length) : (xs.take (k + 1)).sum = (xs.take k).sum + xs[k]?.getD 0 := by
  rw [List.take_succ_eq_append_getElem hk, List.sum_append]
  simp [List.getElem?_eq_getElem hk]
theorem sum_bd {M : Int} : ∀ {xs : List Int}, (∀ x ∈ xs, 0 ≤ x ∧ x ≤ M) → 0 ≤ xs.sum ∧ xs.sum ≤ xs.length * M
  | [], _ => by simp
  | x :: xs, h => by
    have h1 := sum_bd (xs := xs) (fun y hy => h y (List.mem_cons_of_mem _ hy))
    have h2 := h x (List.mem_cons_self ..)
    have e : ((x :: xs).length : Int) * M = xs.length * M + M := by rw [List.length_cons]; push_cast; rw [Int.add_mul]; omega
    rw [List.sum_cons, e]
    omega
theorem sum_take_bd {M : Int} {xs : List Int} (h : ∀ x ∈ xs, 0 ≤ x ∧ x ≤ M) (hM : M ≤ 1000000) (hM0 : 0 ≤ M) (hl : xs.length ≤ 1000000) (k : Nat) : 0 ≤ (xs.take k).sum ∧ (xs.take k).sum ≤ 1000000000000 := by
  have h1 := sum_bd (M := M) (xs := xs.take k) (fun x hx => h x (List.mem_of_mem_take hx))
  have h2 : (xs.take k).length ≤ 1000000 := by rw [List.length_take]; omega
  have h3 : ((xs.take k).length : Int) * M ≤ 1000000 * 1000000 := Int.mul_le_mul (by omega) hM hM0 (by omega)
  omega
theorem mem_at {xs : List Int} {k : Nat} (hk : k < xs.length) : xs[k]?.getD 0 ∈ xs := by
  simp only [List.getElem?_eq_getElem hk, Option.getD_some]; exact List.getElem_mem hk

set_option maxHeartbeats 1000000 in
theorem total_c (A : Option Addr) (n c : Nat) (M : Int) (xs : List Int) (w : World) (hr : Rd w A n xs) (hn : n ≤ 1000000) (hM0 : 0 ≤ M) (hM : M ≤ 1000000) (hx : ∀ x ∈ xs, 0 ≤ x ∧ x ≤ M) :
    Calls Tryz.prog 67 #[.slice A n c] w fun e w' => e = .returned (.int .i64 xs.sum) ∧ w = w' := by
  have hxl := Lib.hid hr.1
  have hx' := Lib.hid hx; clear hx
  go_enter Tryz.func67, Tryz.ntmps67
  go_wp2
  go_loop [3, 8] (fun s i => ∃ k : Nat, k ≤ n ∧ i = .int .i64 k ∧ s = .int .i64 (xs.take k).sum) (fun _ i => n - (intOf i).toNat)
  case atStart => exact ⟨0, Nat.zero_le _, rfl, by simp⟩
  case round =>
    obtain ⟨k, hk, rfl, rfl⟩ := hrel
    by_cases hlt : k < n
    · obtain ⟨b, off, rfl, hb, hc⟩ := hr.at_ hlt
      have hN := Lib.hid (sum_snoc xs (hxl.out ▸ hlt : k < xs.length))
      have h1 := sum_take_bd hx'.out hM hM0 (by rw [hxl.out]; exact hn) k
      have h2 := hx'.out _ (mem_at (hxl.out ▸ hlt : k < xs.length))
      generalize (xs.take k).sum = s at hN h1 ⊢
      go_wp2
      go_round
      case rel => exact ⟨k + 1, by omega, by go_num, by rw [hN.out]⟩
      case measure => simp [intOf]; omega
    · obtain rfl : k = n := by omega
      have hF := Lib.hid (show (xs.take k).sum = xs.sum by rw [List.take_of_length_le (Nat.le_of_eq hxl.out)])
      go_wp2
      go_ret
      exact ⟨by rw [← hF.out]; rfl, rfl⟩
end Go.Proofs.YtkcdoacojiilaaaGreat
