
/- Walks: the excess; ProofOk, ProofOf, ProofColumns of the program. -/
import Derived.Test.YtljmlhcmjgepcaaSrt
namespace Go.Proofs.Ytljmlhcmjgepcaa
open Go.RowKit
set_option maxRecDepth 100000

theorem Rd.take {w : World} {A : Option Addr} {n k : Nat} {xs : List Int} (h : Rd w A n xs) (hk : k ≤ n) : Rd w A k (xs.take k) :=
  ⟨by rw [List.length_take, h.1]; omega, fun hk0 => by
    obtain ⟨b, off, e, hb, hc⟩ := h.2 (by omega)
    refine ⟨b, off, e, hb, fun j x hx => hc j x ?_⟩
    rw [List.getElem?_take] at hx
    split at hx
    · exact hx
    · cases hx⟩
/-- Σ min over the first k -/
theorem mSum_snoc (cols : List Int) (t : Int) {k : Nat} (hk : k < cols.length) : mSum (cols.take (k + 1)) t = mSum (cols.take k) t + min (cols[k]?.getD 0) t := by
  rw [List.take_succ_eq_append_getElem hk, mSum, List.map_append, List.sum_append]
  simp [mSum, List.getElem?_eq_getElem hk]
theorem mSum_bd {cols : List Int} {t : Int} (h : ∀ x ∈ cols, 0 ≤ x ∧ x ≤ 6) (ht : 0 ≤ t) : 0 ≤ mSum cols t ∧ mSum cols t ≤ 6 * cols.length := by
  have h1 := mSum_le_sum cols t
  have h2 := sum_bd (M := 6) h
  have h3 := mSum_nonneg (c := cols) (t := t) (fun x hx => (h x hx).1) ht
  omega

set_option maxHeartbeats 4000000 in
theorem excess_c (A B : Option Addr) (n m c d t : Nat) (xs ys : List Int) (w : World) (hr : Rd w A n xs) (hq : Rd w B m ys) (hv : sV xs ys = true) (ht : t ≤ n) :
    Calls Try.prog 26 #[.slice A n c, .slice B m d, .int .i64 t] w fun e w' => e = .returned (.int .i64 (exc xs ys t)) ∧ Below w.heap.size w w' := by
  obtain ⟨b1, b2, b3, b4, b5, b6⟩ := sV_out hv
  rw [hr.1] at b1 b2
  rw [hq.1] at b3 b4 b5
  rw [hr.1] at b6
  have b5' := Lib.hid b5
  have hy6 := Lib.hid (show ∀ x ∈ ys, 0 ≤ x ∧ x ≤ 6 from fun x hx => by have := b6 x hx; omega)
  have hyl := Lib.hid hq.1
  have hds := Lib.hid (show ∀ x ∈ (dsort xs).take t, 0 ≤ x ∧ x ≤ 6 from fun x hx => by have := b5 x ((dsort_perm xs).mem_iff.1 (List.mem_of_mem_take hx)); omega)
  have hdl := sum_bd hds.out
  have hdl2 : ((dsort xs).take t).length ≤ 6 := by rw [List.length_take]; omega
  clear b5 b6 hv
  have hE := Lib.hid (show exc xs ys t = ((dsort xs).take t).sum - mSum ys t from rfl)
  go_enter Try.func26, Try.ntmps26
  go_wp2_with fail
  refine (sorted_c A n c xs _ hr (by omega) (by omega) (fun x hx => by have := b5'.out x hx; omega)).mono ?_
  rintro e w1 ⟨g, c', rfl, hb1, ho1, hc1, hc2⟩
  unfold maxLen at hc2
  have hR := ho1.rd.take ht
  clear ho1
  go_wp2_with fail
  refine (total_c _ _ _ 6 _ _ hR (by omega) (by omega) (by omega) hds.out).mono ?_
  rintro e w2 ⟨rfl, rfl⟩
  obtain ⟨S, hS⟩ : ∃ S, S = ((dsort xs).take t).sum := ⟨_, rfl⟩
  rw [← hS] at hdl hE ⊢
  have hS' := Lib.hid hS
  have hE' := Lib.hid hE.out
  clear hS hE hR
  go_wp2
  go_loop [7, 17] (fun s i => ∃ k : Nat, k ≤ m ∧ i = .int .i64 k ∧ s = .int .i64 (S - mSum (ys.take k) t)) (fun _ i => m - (intOf i).toNat)
  case atStart => exact ⟨0, Nat.zero_le _, rfl, by simp [mSum]⟩
  case round =>
    obtain ⟨k, hk, rfl, rfl⟩ := hrel
    by_cases hlt : k < m
    · obtain ⟨b, off, rfl, hb, hc⟩ := (hq.next hb1).at_ hlt
      have hN := Lib.hid (mSum_snoc ys (t : Int) (hyl.out ▸ hlt : k < ys.length))
      have hcy := hy6.out _ (mem_at (hyl.out ▸ hlt : k < ys.length))
      have hmb := mSum_bd (cols := ys.take k) (t := (t : Int)) (fun x hx => hy6.out x (List.mem_of_mem_take hx)) (by omega)
      have hml : (ys.take k).length ≤ 6 := by rw [List.length_take]; omega
      generalize mSum (ys.take k) t = M at hN hmb ⊢
      generalize ys[k]?.getD 0 = y at hc hN hcy ⊢
      rw [show min y (t : Int) = if y ≤ t then y else (t : Int) from rfl] at hN
      by_cases hyt : y ≤ (t : Int)
      · have hN2 := Lib.hid (hN.out.trans (by rw [if_pos hyt]))
        clear hN
        go_wp2
        refine ⟨⟨k + 1, by omega, by go_num, by rw [hN2.out, Int.sub_sub]⟩, ?_⟩
        simp [intOf]; omega
      · have hN2 := Lib.hid (hN.out.trans (by rw [if_neg hyt]))
        have hyt2 : (t : Int) < y := by omega
        clear hN
        go_wp2
        refine ⟨⟨k + 1, by omega, by go_num, by rw [hN2.out, Int.sub_sub]⟩, ?_⟩
        simp [intOf]; omega
    · obtain rfl : k = m := by omega
      have hF := Lib.hid (show ys.take k = ys by rw [List.take_of_length_le (Nat.le_of_eq hyl.out)])
      go_wp2
      go_ret
      exact ⟨by rw [hE'.out, ← hF.out, List.take_take, Nat.min_self]; rfl, hb1⟩

theorem pOk_no {r c : List Int} {t : Int} (h : ¬ (sV r c = true ∧ 0 ≤ t ∧ t ≤ r.length)) : pOk r c t = false := by
  cases e : pOk r c t with
  | false => rfl
  | true => exact absurd (pOk_iff.1 e) (fun h1 => h ⟨h1.1, h1.2.1, h1.2.2.1⟩)
theorem pOk_yes {r c : List Int} {t : Nat} (h1 : sV r c = true) (h3 : t ≤ r.length) : pOk r c (t : Nat) = decide (0 < exc r c t) := by
  have h3' : (t : Int) ≤ r.length := by omega
  simp [pOk, h1, h3']
set_option maxHeartbeats 4000000 in
theorem impl_ProofOk_c (A B : Option Addr) (n m c d : Nat) (t : Int) (xs ys : List Int) (w : World) (hr : Rd w A n xs) (hq : Rd w B m ys) (hn : n ≤ 1048576) (hm : m ≤ 1048576) :
    Calls Try.prog 17 #[.slice A n c, .slice B m d, .int .i64 t] w fun e w' => e = .returned (.bool (pOk xs ys t)) ∧ Below w.heap.size w w' := by
  cases hv : sV xs ys with
  | false =>
    have hT := Lib.hid (pOk_no (r := xs) (c := ys) (t := t) (fun h => by rw [hv] at h; cases h.1))
    go_enter Try.func17, Try.ntmps17
    go_wp2_with (go_at_call 15; refine (SumsValid_c _ _ _ _ _ _ xs ys _ hr hq (by omega) (by omega)).mono ?_; rw [hv]; rintro e w' ⟨rfl, rfl⟩)
    go_ret
    exact ⟨ret_bool (by rw [hT.out]), Below.refl _ _⟩
  | true =>
  by_cases h0 : 0 ≤ t
  case neg =>
    have hT := Lib.hid (pOk_no (r := xs) (c := ys) (t := t) (fun h => h0 h.2.1))
    go_enter Try.func17, Try.ntmps17
    go_wp2_with (go_at_call 15; refine (SumsValid_c _ _ _ _ _ _ xs ys _ hr hq (by omega) (by omega)).mono ?_; rw [hv]; rintro e w' ⟨rfl, rfl⟩)
    go_ret
    exact ⟨ret_bool (by rw [hT.out]), Below.refl _ _⟩
  obtain ⟨q, rfl⟩ := Int.eq_ofNat_of_zero_le h0
  by_cases h1 : q ≤ n
  case neg =>
    have hT := Lib.hid (pOk_no (r := xs) (c := ys) (t := (q : Int)) (fun h => h1 (by have := h.2.2; rw [hr.1] at this; omega)))
    have h2 : ¬ ((q : Int) ≤ (n : Int)) := by omega
    go_enter Try.func17, Try.ntmps17
    go_wp2_with (go_at_call 15; refine (SumsValid_c _ _ _ _ _ _ xs ys _ hr hq (by omega) (by omega)).mono ?_; rw [hv]; rintro e w' ⟨rfl, rfl⟩)
    go_ret
    exact ⟨ret_bool (by rw [hT.out]), Below.refl _ _⟩
  have hT := Lib.hid (pOk_yes hv (by rw [hr.1]; exact h1 : q ≤ xs.length))
  have h2 : ((q : Int) ≤ (n : Int)) := by omega
  go_enter Try.func17, Try.ntmps17
  go_wp2_with fail
  refine (SumsValid_c _ _ _ _ _ _ xs ys _ hr hq (by omega) (by omega)).mono ?_
  rw [hv]
  rintro e w' ⟨rfl, rfl⟩
  have hv' := Lib.hid hv; clear hv
  go_wp2_with fail
  refine (excess_c _ _ _ _ _ _ q xs ys _ hr hq hv'.out h1).mono ?_
  rintro e w1 ⟨rfl, hb1⟩
  go_wp2
  go_ret
  exact ⟨ret_bool (by rw [hT.out]), hb1⟩

/-- what ProofOf hands back -/
def pVal (o : Option Nat) : Value := .tuple #[.int .i64 (o.getD 0 : Nat), .bool o.isSome]
theorem pOf_from {r c : List Int} (h : ∀ s : Nat, s < r.length + 1 → pOk r c (s : Nat) = false) : pOf r c = none := by
  refine List.find?_eq_none.2 (fun s _ => ?_)
  rcases Nat.lt_or_ge s (r.length + 1) with h1 | h1
  · rw [h s h1]; simp
  · rw [pOk_no (fun h2 => by have := h2.2.2; omega)]; simp
theorem pOf_first {r c : List Int} {t : Nat} (h1 : pOk r c (t : Nat) = true) (h : ∀ s : Nat, s < t → pOk r c (s : Nat) = false) : pOf r c = some t := by
  obtain ⟨s, hs, h2⟩ := pOf_isSome h1
  obtain ⟨h3, _⟩ := pOf_some hs
  rcases Nat.lt_or_ge s t with h4 | h4
  · rw [h s h4] at h3; cases h3
  · rw [hs]; congr 1; omega
set_option maxHeartbeats 4000000 in
theorem impl_ProofOf_c (A B : Option Addr) (n m c d : Nat) (xs ys : List Int) (w : World) (hr : Rd w A n xs) (hq : Rd w B m ys) (hn : n ≤ 1048576) (hm : m ≤ 1048576) :
    Calls Try.prog 10 #[.slice A n c, .slice B m d] w fun e w' => e = .returned (pVal (pOf xs ys)) ∧ Below w.heap.size w w' := by
  have hxl := Lib.hid hr.1
  go_enter Try.func10, Try.ntmps10
  go_wp2
  go_loopw [10] (fun i wr => ∃ k : Nat, k ≤ n + 1 ∧ i = .int .i64 k ∧ Below w.heap.size w wr ∧ Hid (∀ s : Nat, s < k → pOk xs ys (s : Nat) = false)) (fun i _ => n + 1 - (intOf i).toNat)
  case atStart => exact ⟨0, Nat.zero_le _, rfl, Below.refl _ _, Lib.hid (fun s h => absurd h (by omega))⟩
  case round =>
    obtain ⟨k, hk, rfl, hbl, hall⟩ := hrel
    by_cases hlt : k < n + 1
    · cases hp : pOk xs ys (k : Nat) with
      | true =>
        have hF := Lib.hid (pOf_first hp hall.out)
        go_wp2_with fail
        refine (impl_ProofOk_c _ _ _ _ _ _ (k : Nat) xs ys _ (hr.next hbl) (hq.next hbl) hn hm).mono ?_
        rw [hp]
        rintro e w1 ⟨rfl, hb1⟩
        go_wp2
        go_ret2
        exact ⟨by rw [hF.out]; rfl, lo_trans hbl hb1⟩
      | false =>
        have hN : Hid (∀ s : Nat, s < k + 1 → pOk xs ys (s : Nat) = false) := Lib.hid (fun s hs => by
          rcases Nat.lt_or_ge s k with h | h
          · exact hall.out s h
          · obtain rfl : s = k := by omega
            exact hp)
        go_wp2_with fail
        refine (impl_ProofOk_c _ _ _ _ _ _ (k : Nat) xs ys _ (hr.next hbl) (hq.next hbl) hn hm).mono ?_
        rw [hp]
        rintro e w1 ⟨rfl, hb1⟩
        go_wp2
        go_roundw
        case rel => exact ⟨k + 1, by omega, by go_num, lo_trans hbl hb1, hN⟩
        case measure => simp [intOf]; omega
    · obtain rfl : k = n + 1 := by omega
      have hF := Lib.hid (pOf_from (fun s hs => hall.out s (by rw [hxl.out] at hs; exact hs)))
      go_wp2
      go_ret2
      exact ⟨by rw [hF.out]; rfl, hbl⟩
theorem impl_ProofColumns_c (A B : Option Addr) (n m c d : Nat) (xs ys : List Int) (w : World) (hr : Rd w A n xs) (hq : Rd w B m ys) (hn : n ≤ 1048576) (hm : m ≤ 1048576) :
    Calls Try.prog 13 #[.slice A n c, .slice B m d] w fun e w' => e = .returned (pVal (pOf ys xs)) ∧ Below w.heap.size w w' := by
  go_enter Try.func13, Try.ntmps13
  go_wp2_with fail
  refine (impl_ProofOf_c _ _ _ _ _ _ ys xs _ hq hr hm hn).mono ?_
  unfold pVal
  rintro e w1 ⟨rfl, hb1⟩
  go_wp2
  go_ret2
  exact ⟨rfl, hb1⟩
end Go.Proofs.Ytljmlhcmjgepcaa
