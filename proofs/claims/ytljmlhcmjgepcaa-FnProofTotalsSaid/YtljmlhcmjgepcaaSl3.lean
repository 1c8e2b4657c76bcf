
/- Walks: ProofOk, ProofOf, ProofColumns of the reference (2). -/
import Derived.Test.YtljmlhcmjgepcaaSk
namespace Go.Proofs.Ytljmlhcmjgepcaa
open Go.RowKit
set_option maxRecDepth 100000

set_option maxHeartbeats 4000000 in
theorem l3Sum_c (A : Option Addr) (n c t : Nat) (M : Int) (xs : List Int) (w : World) (hr : Rd w A n xs) (hn : n ≤ 1000000) (ht : t ≤ 1000000) (hM0 : 0 ≤ M) (hM : M ≤ 1000000) (hx : ∀ x ∈ xs, 0 ≤ x ∧ x ≤ M) :
    Calls Try.prog 32 #[.slice A n c, .int .i64 t] w fun e w' => e = .returned (.int .i64 (xs.take t).sum) ∧ w = w' := by
  have hxl := Lib.hid hr.1
  have hx' := Lib.hid hx; clear hx
  go_enter Try.func32, Try.ntmps32
  go_wp2
  go_loop [5, 6] (fun s i => ∃ k : Nat, k ≤ n ∧ k ≤ t ∧ i = .int .i64 k ∧ s = .int .i64 (xs.take k).sum) (fun _ i => n - (intOf i).toNat)
  case atStart => exact ⟨0, Nat.zero_le _, Nat.zero_le _, rfl, by simp⟩
  case round =>
    obtain ⟨k, hk, hkt, rfl, rfl⟩ := hrel
    by_cases hlt : k < n
    · by_cases hlt2 : k < t
      · obtain ⟨b, off, rfl, hb, hc⟩ := hr.at_ hlt
        have hN := Lib.hid (sum_snoc xs (hxl.out ▸ hlt : k < xs.length))
        have h1 := sum_take_bd hx'.out hM hM0 (by rw [hxl.out]; exact hn) k
        have h2 := hx'.out _ (mem_at (hxl.out ▸ hlt : k < xs.length))
        generalize (xs.take k).sum = s at hN h1 ⊢
        go_wp2
        go_round
        case rel => exact ⟨k + 1, by omega, by omega, by go_num, by rw [hN.out]⟩
        case measure => simp [intOf]; omega
      · obtain rfl : k = t := by omega
        go_wp2
        go_ret
        exact ⟨rfl, rfl⟩
    · obtain rfl : k = n := by omega
      have hF := Lib.hid (show (xs.take t).sum = (xs.take k).sum by rw [List.take_of_length_le (by rw [hxl.out]; exact hkt), List.take_of_length_le (Nat.le_of_eq hxl.out)])
      go_wp2
      go_ret
      exact ⟨by rw [hF.out]; rfl, rfl⟩

set_option maxHeartbeats 4000000 in
theorem spec_ProofOk_c (A B : Option Addr) (n m c d : Nat) (t : Int) (xs ys : List Int) (w : World) (hr : Rd w A n xs) (hq : Rd w B m ys) (hn : n ≤ 1048576) (hm : m ≤ 1048576) :
    Calls Try.prog 18 #[.slice A n c, .slice B m d, .int .i64 t] w fun e w' => e = .returned (.bool (pOk xs ys t)) ∧ Below w.heap.size w w' := by
  cases hv : sV xs ys with
  | false =>
    have hT := Lib.hid (pOk_no (r := xs) (c := ys) (t := t) (fun h => by rw [hv] at h; cases h.1))
    go_enter Try.func18, Try.ntmps18
    go_wp2_with fail
    refine (spec_SumsValid_c _ _ _ _ _ _ xs ys _ hr hq (by omega) (by omega)).mono ?_
    rw [hv]
    rintro e w' ⟨rfl, rfl⟩
    go_wp2
    go_ret
    exact ⟨ret_bool (by rw [hT.out]), Below.refl _ _⟩
  | true =>
  by_cases h0 : 0 ≤ t ∧ t ≤ (n : Int)
  case neg =>
    have hT := Lib.hid (pOk_no (r := xs) (c := ys) (t := t) (fun h => h0 ⟨h.2.1, by have := h.2.2; rw [hr.1] at this; exact this⟩))
    go_enter Try.func18, Try.ntmps18
    go_wp2_with fail
    refine (spec_SumsValid_c _ _ _ _ _ _ xs ys _ hr hq (by omega) (by omega)).mono ?_
    rw [hv]
    rintro e w' ⟨rfl, rfl⟩
    go_wp2_with fail
    refine (l6In_f _ (by omega)).mono ?_
    rintro e w' ⟨rfl, rfl⟩
    go_wp2
    go_ret
    exact ⟨ret_bool (by rw [hT.out]), Below.refl _ _⟩
  obtain ⟨q, rfl⟩ := Int.eq_ofNat_of_zero_le h0.1
  have h1 : q ≤ n := by omega
  have hT := Lib.hid (pOk_yes hv (by rw [hr.1]; exact h1 : q ≤ xs.length))
  have hb := sV_out hv
  rw [hr.1, hq.1] at hb
  obtain ⟨b1, b2, b3, b4, b5, b6⟩ := hb
  have hx6 := Lib.hid (show allIn 0 6 xs = true from allIn_iff.2 (fun x hx => by have := b5 x hx; omega))
  have hy6 := Lib.hid (show ∀ x ∈ ys, 0 ≤ x ∧ x ≤ 6 from fun x hx => by have := b6 x hx; omega)
  have hd6 := Lib.hid (show ∀ x ∈ dsort xs, 0 ≤ x ∧ x ≤ 6 from fun x hx => by have := b5 x ((dsort_perm xs).mem_iff.1 hx); omega)
  have hdl := Lib.hid (show (dsort xs).length = n by rw [dsort_len, hr.1])
  have hyl := Lib.hid hq.1
  have hts := sum_bd (M := 6) (xs := (dsort xs).take q) (fun x hx => hd6.out x (List.mem_of_mem_take hx))
  have htl : ((dsort xs).take q).length ≤ 6 := by rw [List.length_take, hdl.out]; omega
  have hE := Lib.hid (show decide (0 < exc xs ys q) = decide (mSum ys q < ((dsort xs).take q).sum) by rw [exc, tSum, Bool.eq_iff_iff]; simp)
  clear b5 b6
  go_enter Try.func18, Try.ntmps18
  go_wp2_with fail
  refine (spec_SumsValid_c _ _ _ _ _ _ xs ys _ hr hq (by omega) (by omega)).mono ?_
  rw [hv]
  rintro e w' ⟨rfl, rfl⟩
  clear hv
  go_wp2_with fail
  refine (l6In_t _ (by omega)).mono ?_
  rintro e w' ⟨rfl, rfl⟩
  go_wp2_with fail
  refine (PartOf_c _ _ _ xs _ hr (by omega) hx6.out).mono ?_
  rintro e w1 ⟨R, r, c', rfl, hb1, ho1⟩
  have hrn : r = n := by rw [← ho1.1, hdl.out]
  subst hrn
  go_wp2
  go_loop [9, 10] (fun s i => ∃ k : Nat, k ≤ m ∧ i = .int .i64 k ∧ s = .int .i64 (mSum (ys.take k) q)) (fun _ i => m - (intOf i).toNat)
  case atStart => exact ⟨0, Nat.zero_le _, rfl, by simp [mSum]⟩
  case round =>
    obtain ⟨k, hk, rfl, rfl⟩ := hrel
    by_cases hlt : k < m
    · obtain ⟨b, off, rfl, hb, hc⟩ := (hq.next hb1).at_ hlt
      have hN := Lib.hid (mSum_snoc ys (q : Int) (hyl.out ▸ hlt : k < ys.length))
      have hcy := hy6.out _ (mem_at (hyl.out ▸ hlt : k < ys.length))
      have hmb := mSum_bd (cols := ys.take k) (t := (q : Int)) (fun x hx => hy6.out x (List.mem_of_mem_take hx)) (by omega)
      have hml : (ys.take k).length ≤ 6 := by rw [List.length_take]; omega
      generalize mSum (ys.take k) q = M at hN hmb ⊢
      generalize ys[k]?.getD 0 = y at hc hN hcy ⊢
      rw [show min y (q : Int) = if y ≤ q then y else (q : Int) from rfl] at hN
      by_cases hyt : y ≤ (q : Int)
      · have hN2 := Lib.hid (hN.out.trans (by rw [if_pos hyt]))
        clear hN
        go_wp2
        refine ⟨⟨k + 1, by omega, by go_num, by rw [hN2.out]⟩, ?_⟩
        simp [intOf]; omega
      · have hN2 := Lib.hid (hN.out.trans (by rw [if_neg hyt]))
        have hyt2 : (q : Int) < y := by omega
        clear hN
        go_wp2
        refine ⟨⟨k + 1, by omega, by go_num, by rw [hN2.out]⟩, ?_⟩
        simp [intOf]; omega
    · obtain rfl : k = m := by omega
      have hF := Lib.hid (show ys.take k = ys by rw [List.take_of_length_le (Nat.le_of_eq hyl.out)])
      rw [hF.out]
      go_wp2_with fail
      refine (l3Sum_c _ _ _ q 6 _ _ ho1.rd (by omega) (by omega) (by omega) (by omega) hd6.out).mono ?_
      rintro e w2 ⟨rfl, rfl⟩
      go_wp2
      go_ret
      exact ⟨ret_bool (by rw [hT.out, hE.out]), hb1⟩

set_option maxHeartbeats 4000000 in
theorem spec_ProofOf_c (A B : Option Addr) (n m c d : Nat) (xs ys : List Int) (w : World) (hr : Rd w A n xs) (hq : Rd w B m ys) (hn : n ≤ 1048576) (hm : m ≤ 1048576) :
    Calls Try.prog 11 #[.slice A n c, .slice B m d] w fun e w' => e = .returned (pVal (pOf xs ys)) ∧ Below w.heap.size w w' := by
  go_enter Try.func11, Try.ntmps11
  go_wp2
  go_loopw [6] (fun i wr => ∃ k : Nat, k ≤ 7 ∧ i = .int .i64 k ∧ Below w.heap.size w wr ∧ Hid (∀ s : Nat, s < k → pOk xs ys (s : Nat) = false)) (fun i _ => 7 - (intOf i).toNat)
  case atStart => exact ⟨0, Nat.zero_le _, rfl, Below.refl _ _, Lib.hid (fun s h => absurd h (by omega))⟩
  case round =>
    obtain ⟨k, hk, rfl, hbl, hall⟩ := hrel
    by_cases hlt : k ≤ 6
    · cases hp : pOk xs ys (k : Nat) with
      | true =>
        have hF := Lib.hid (pOf_first hp hall.out)
        go_wp2_with fail
        refine (spec_ProofOk_c _ _ _ _ _ _ (k : Nat) xs ys _ (hr.next hbl) (hq.next hbl) hn hm).mono ?_
        rw [hp]
        rintro e w1 ⟨rfl, hb1⟩
        go_wp2
        go_ret2
        exact ⟨by rw [hF.out]; rfl, lo_trans hbl hb1⟩
      | false =>
        have hN : Hid (∀ s : Nat, s < k + 1 → pOk xs ys (s : Nat) = false) := Lib.hid (fun s hs => by
          rcases Nat.lt_or_ge s k with h | h
          · exact hall.out s h
          · obtain rfl : s = k := by omega
            exact hp)
        go_wp2_with fail
        refine (spec_ProofOk_c _ _ _ _ _ _ (k : Nat) xs ys _ (hr.next hbl) (hq.next hbl) hn hm).mono ?_
        rw [hp]
        rintro e w1 ⟨rfl, hb1⟩
        go_wp2
        go_roundw
        case rel => exact ⟨k + 1, by omega, by go_num, lo_trans hbl hb1, hN⟩
        case measure => simp [intOf]; omega
    · obtain rfl : k = 7 := by omega
      have hF := Lib.hid (show pOf xs ys = none from List.find?_eq_none.2 (fun s hs => by rw [hall.out s (List.mem_range.1 hs)]; simp))
      go_wp2
      go_ret2
      exact ⟨by rw [hF.out]; rfl, hbl⟩
theorem spec_ProofColumns_c (A B : Option Addr) (n m c d : Nat) (xs ys : List Int) (w : World) (hr : Rd w A n xs) (hq : Rd w B m ys) (hn : n ≤ 1048576) (hm : m ≤ 1048576) :
    Calls Try.prog 21 #[.slice A n c, .slice B m d] w fun e w' => e = .returned (pVal (pOf ys xs)) ∧ Below w.heap.size w w' := by
  go_enter Try.func21, Try.ntmps21
  go_wp2_with fail
  refine (spec_ProofOf_c _ _ _ _ _ _ ys xs _ hq hr hm hn).mono ?_
  unfold pVal
  rintro e w1 ⟨rfl, hb1⟩
  go_wp2
  go_ret2
  exact ⟨rfl, hb1⟩
end Go.Proofs.Ytljmlhcmjgepcaa
