/- Plain facts and walks that the law's proof uses; each says its own conditions. -/
import Derived.Test.YtpeiolimdglmhaaGreatDoorZ12
import Derived.Test.YtpeiolimdglmhaaGreatDoorZ09
import Derived.Test.YtpeiolimdglmhaaGreatDoorZ11
import Derived.Shelf.Abstract
import Derived.Test.YtpeiolimdglmhaaGreatDoorZ10
-- Plain facts and walks that the law's proof uses; each says its own conditions.
namespace Go.Proofs.YtpeiolimdglmhaaGreatDoor
open Go.RowKit Go.Shelf
set_option maxRecDepth 100000

theorem desc_cmp (g : Nat) : Cmp 136 #[] (fun x y => y - x) (fun x => -1000 ≤ x ∧ x ≤ 1000) g (fun _ => True) where
  ent := enters_of Tryz.func136 (by kernel_rfl) rfl
  next := fun _ _ => trivial
  set_ := fun _ _ _ => trivial
  call := by
    intro W x y _ hx hy
    simp only [Array.append_empty]
    go_enter Tryz.func136, Tryz.ntmps136
    go_wp2
    go_ret
    exact ⟨rfl, Below.refl _ _⟩

set_option maxHeartbeats 1000000 in
theorem bitsLen_c (n : Int) (w : World) (h0 : 0 ≤ n) (hn : n ≤ 255) : Calls Tryz.prog 157 #[.int .u64 n] w fun e w' => (∃ k : Int, e = .returned (.int .i64 k)) ∧ w = w' := by
  go_enter Tryz.func157, Tryz.ntmps157
  go_wp2
  go_ret
  exact ⟨⟨_, rfl⟩, rfl⟩

set_option maxHeartbeats 4000000 in
theorem pdq_c (F : Nat) (cap : Array Value) (cf : Int → Int → Int) (ok : Int → Prop) (lo g n c : Nat) (lim : Int) (Kp : World → Prop) (xs : List Int) (w : World) (hC : Cmp F cap cf ok g Kp) (ho : Own w lo (some ⟨g, 0, none⟩) n xs) (hk : Kp w) (hn : n ≤ 12) (hok : ∀ x ∈ xs, ok x) :
    Calls Tryz.prog 156 #[.slice (some ⟨g, 0, none⟩) n c, .int .i64 0, .int .i64 n, .int .i64 lim, .func (.func F) #[] cap] w fun e w' => e = .returned (.tuple #[]) ∧ SI w w' lo g n Kp (isort (ltC cf) xs) := by
  have hC' := Lib.hid hC; clear hC
  have hok' := Lib.hid hok; clear hok
  have hk' := Lib.hid hk; clear hk
  go_enter Tryz.func156, Tryz.ntmps156
  go_wp2
  refine wp_loop_rounds 1 ?_
  rw [rounds_succ]
  go_wp2_with fail
  refine (insertion_c F cap cf ok lo g n c Kp xs _ hC'.out ho hk'.out (by omega) hok'.out).mono ?_
  rintro e w1 ⟨rfl, hI⟩
  go_wp2
  refine bodyPost_ret (results_none rfl _ _ _) rfl ?_
  exact ⟨rfl, hI⟩

set_option maxHeartbeats 4000000 in
theorem SortFunc_c (F : Nat) (cap : Array Value) (cf : Int → Int → Int) (ok : Int → Prop) (lo g n c : Nat) (Kp : World → Prop) (xs : List Int) (w : World) (hC : Cmp F cap cf ok g Kp) (ho : Own w lo (some ⟨g, 0, none⟩) n xs) (hk : Kp w) (hn : n ≤ 12) (hok : ∀ x ∈ xs, ok x) :
    Calls Tryz.prog 135 #[.slice (some ⟨g, 0, none⟩) n c, .func (.func F) #[] cap] w fun e w' => e = .returned (.tuple #[]) ∧ SI w w' lo g n Kp (isort (ltC cf) xs) := by
  have hC' := Lib.hid hC; clear hC
  have hok' := Lib.hid hok; clear hok
  have hk' := Lib.hid hk; clear hk
  go_enter Tryz.func135, Tryz.ntmps135
  go_wp2_with fail
  refine (bitsLen_c _ _ (by omega) (by omega)).mono ?_
  rintro e w1 ⟨⟨k, rfl⟩, rfl⟩
  go_wp2_with fail
  refine (pdq_c F cap cf ok lo g n c k Kp xs _ hC'.out ho hk'.out hn hok'.out).mono ?_
  rintro e w1 ⟨rfl, hI⟩
  go_wp2
  go_end0
  exact ⟨rfl, hI⟩

set_option maxHeartbeats 4000000 in
theorem sorted_c (A : Option Addr) (n c : Nat) (xs : List Int) (w : World) (hr : Rd w A n xs) (hn0 : 0 < n) (hn : n ≤ 12) (hok : ∀ x ∈ xs, -1000 ≤ x ∧ x ≤ 1000) :
    Calls Tryz.prog 106 #[.slice A n c] w fun e w' => ∃ g c', e = .returned (.slice (some ⟨g, 0, none⟩) n c') ∧ Below w.heap.size w w' ∧ Own w' w.heap.size (some ⟨g, 0, none⟩) n (dsort xs) ∧ n ≤ c' ∧ c' ≤ maxLen := by
  have hok' := Lib.hid hok; clear hok
  have hE := Lib.hid (show isort (ltC (fun x y => y - x)) xs = dsort xs by
    unfold dsort
    congr 1
    funext x y
    unfold ltC
    rw [Bool.eq_iff_iff]; simp; omega)
  go_enter Tryz.func106, Tryz.ntmps106
  go_wp2_with fail
  refine (Clone_c2 _ _ _ xs _ hr hn0 (by omega)).mono ?_
  rintro e w1 ⟨g, c', rfl, hb1, ho1, hc1, hc2⟩
  go_wp2_with fail
  refine (SortFunc_c _ _ _ _ w.heap.size g n c' (fun _ => True) xs _ (desc_cmp g) ho1 trivial hn hok'.out).mono ?_
  rintro e w2 ⟨rfl, hI⟩
  have hI' := Lib.hid hI; clear hI
  go_wp2
  go_ret
  refine ⟨g, c', rfl, ?_, by rw [← hE.out]; exact hI'.out.ow, hc1, hc2⟩
  refine lo_grown hb1 hI'.out.gr ?_
  rintro _ ⟨⟩
  obtain ⟨g', _, e, h1, _⟩ := ho1.2 hn0
  cases e
  exact h1
end Go.Proofs.YtpeiolimdglmhaaGreatDoor

-- Walks: the excess; ProofOk, ProofOf, ProofColumns of the program.
namespace Go.Proofs.YtpeiolimdglmhaaGreatDoor
open Go.RowKit
set_option maxRecDepth 100000

theorem Rd.take {w : World} {A : Option Addr} {n k : Nat} {xs : List Int} (h : Rd w A n xs) (hk : k ≤ n) : Rd w A k (xs.take k) :=
  ⟨by rw [List.length_take, h.1]; omega, fun hk0 => by
    obtain ⟨b, off, e, hb, hc⟩ := h.2 (by omega)
    refine ⟨b, off, e, hb, fun j x hx => hc j x ?_⟩
    rw [List.getElem?_take] at hx
    split at hx
    · exact hx
    · cases hx⟩
/-- Σ min over the first k -/
theorem mSum_snoc (cols : List Int) (t : Int) {k : Nat} (hk : k < cols.length) : mSum (cols.take (k + 1)) t = mSum (cols.take k) t + min (cols[k]?.getD 0) t := by
  rw [List.take_succ_eq_append_getElem hk, mSum, List.map_append, List.sum_append]
  simp [mSum, List.getElem?_eq_getElem hk]
theorem mSum_bd {cols : List Int} {t : Int} (h : ∀ x ∈ cols, 0 ≤ x ∧ x ≤ 6) (ht : 0 ≤ t) : 0 ≤ mSum cols t ∧ mSum cols t ≤ 6 * cols.length := by
  have h1 := mSum_le_sum cols t
  have h2 := sum_bd (M := 6) h
  have h3 := mSum_nonneg (c := cols) (t := t) (fun x hx => (h x hx).1) ht
  omega

set_option maxHeartbeats 4000000 in
theorem excess_c (A B : Option Addr) (n m c d t : Nat) (xs ys : List Int) (w : World) (hr : Rd w A n xs) (hq : Rd w B m ys) (hv : sV xs ys = true) (ht : t ≤ n) :
    Calls Tryz.prog 99 #[.slice A n c, .slice B m d, .int .i64 t] w fun e w' => e = .returned (.int .i64 (exc xs ys t)) ∧ Below w.heap.size w w' := by
  obtain ⟨b1, b2, b3, b4, b5, b6⟩ := sV_out hv
  rw [hr.1] at b1 b2
  rw [hq.1] at b3 b4 b5
  rw [hr.1] at b6
  have b5' := Lib.hid b5
  have hy6 := Lib.hid (show ∀ x ∈ ys, 0 ≤ x ∧ x ≤ 6 from fun x hx => by have := b6 x hx; omega)
  have hyl := Lib.hid hq.1
  have hds := Lib.hid (show ∀ x ∈ (dsort xs).take t, 0 ≤ x ∧ x ≤ 6 from fun x hx => by have := b5 x ((dsort_perm xs).mem_iff.1 (List.mem_of_mem_take hx)); omega)
  have hdl := sum_bd hds.out
  have hdl2 : ((dsort xs).take t).length ≤ 6 := by rw [List.length_take]; omega
  clear b5 b6 hv
  have hE := Lib.hid (show exc xs ys t = ((dsort xs).take t).sum - mSum ys t from rfl)
  go_enter Tryz.func99, Tryz.ntmps99
  go_wp2_with fail
  refine (sorted_c A n c xs _ hr (by omega) (by omega) (fun x hx => by have := b5'.out x hx; omega)).mono ?_
  rintro e w1 ⟨g, c', rfl, hb1, ho1, hc1, hc2⟩
  unfold maxLen at hc2
  have hR := ho1.rd.take ht
  clear ho1
  go_wp2_with fail
  refine (total_c _ _ _ 6 _ _ hR (by omega) (by omega) (by omega) hds.out).mono ?_
  rintro e w2 ⟨rfl, rfl⟩
  obtain ⟨S, hS⟩ : ∃ S, S = ((dsort xs).take t).sum := ⟨_, rfl⟩
  rw [← hS] at hdl hE ⊢
  have hS' := Lib.hid hS
  have hE' := Lib.hid hE.out
  clear hS hE hR
  go_wp2
  go_loop [7, 17] (fun s i => ∃ k : Nat, k ≤ m ∧ i = .int .i64 k ∧ s = .int .i64 (S - mSum (ys.take k) t)) (fun _ i => m - (intOf i).toNat)
  case atStart => exact ⟨0, Nat.zero_le _, rfl, by simp [mSum]⟩
  case round =>
    obtain ⟨k, hk, rfl, rfl⟩ := hrel
    by_cases hlt : k < m
    · obtain ⟨b, off, rfl, hb, hc⟩ := (hq.next hb1).at_ hlt
      have hN := Lib.hid (mSum_snoc ys (t : Int) (hyl.out ▸ hlt : k < ys.length))
      have hcy := hy6.out _ (mem_at (hyl.out ▸ hlt : k < ys.length))
      have hmb := mSum_bd (cols := ys.take k) (t := (t : Int)) (fun x hx => hy6.out x (List.mem_of_mem_take hx)) (by omega)
      have hml : (ys.take k).length ≤ 6 := by rw [List.length_take]; omega
      generalize mSum (ys.take k) t = M at hN hmb ⊢
      generalize ys[k]?.getD 0 = y at hc hN hcy ⊢
      rw [show min y (t : Int) = if y ≤ t then y else (t : Int) from rfl] at hN
      by_cases hyt : y ≤ (t : Int)
      · have hN2 := Lib.hid (hN.out.trans (by rw [if_pos hyt]))
        clear hN
        go_wp2
        refine ⟨⟨k + 1, by omega, by go_num, by first | (rw [hN2.out, Int.sub_sub]; done) | (rw [hN2.out]; congr 1; omega)⟩, ?_⟩
        simp [intOf]; omega
      · have hN2 := Lib.hid (hN.out.trans (by rw [if_neg hyt]))
        have hyt2 : (t : Int) < y := by omega
        clear hN
        go_wp2
        refine ⟨⟨k + 1, by omega, by go_num, by first | (rw [hN2.out, Int.sub_sub]; done) | (rw [hN2.out]; congr 1; omega)⟩, ?_⟩
        simp [intOf]; omega
    · obtain rfl : k = m := by omega
      have hF := Lib.hid (show ys.take k = ys by rw [List.take_of_length_le (Nat.le_of_eq hyl.out)])
      go_wp2
      go_ret
      exact ⟨by rw [hE'.out, ← hF.out, List.take_take, Nat.min_self]; rfl, hb1⟩

theorem pOk_no {r c : List Int} {t : Int} (h : ¬ (sV r c = true ∧ 0 ≤ t ∧ t ≤ r.length)) : pOk r c t = false := by
  cases e : pOk r c t with
  | false => rfl
  | true => exact absurd (pOk_iff.1 e) (fun h1 => h ⟨h1.1, h1.2.1, h1.2.2.1⟩)
theorem pOk_yes {r c : List Int} {t : Nat} (h1 : sV r c = true) (h3 : t ≤ r.length) : pOk r c (t : Nat) = decide (0 < exc r c t) := by
  have h3' : (t : Int) ≤ r.length := by omega
  simp [pOk, h1, h3']
set_option maxHeartbeats 4000000 in
theorem impl_ProofOk_c (A B : Option Addr) (n m c d : Nat) (t : Int) (xs ys : List Int) (w : World) (hr : Rd w A n xs) (hq : Rd w B m ys) (hn : n ≤ 1048576) (hm : m ≤ 1048576) :
    Calls Tryz.prog 58 #[.slice A n c, .slice B m d, .int .i64 t] w fun e w' => e = .returned (.bool (pOk xs ys t)) ∧ Below w.heap.size w w' := by
  cases hv : sV xs ys with
  | false =>
    have hT := Lib.hid (pOk_no (r := xs) (c := ys) (t := t) (fun h => by rw [hv] at h; cases h.1))
    go_enter Tryz.func58, Tryz.ntmps58
    go_wp2_with (go_at_call 25; refine (SumsValid_c _ _ _ _ _ _ xs ys _ hr hq (by omega) (by omega)).mono ?_; rw [hv]; rintro e w' ⟨rfl, rfl⟩)
    go_ret
    exact ⟨ret_bool (by rw [hT.out]), Below.refl _ _⟩
  | true =>
  by_cases h0 : 0 ≤ t
  case neg =>
    have hT := Lib.hid (pOk_no (r := xs) (c := ys) (t := t) (fun h => h0 h.2.1))
    go_enter Tryz.func58, Tryz.ntmps58
    go_wp2_with (go_at_call 25; refine (SumsValid_c _ _ _ _ _ _ xs ys _ hr hq (by omega) (by omega)).mono ?_; rw [hv]; rintro e w' ⟨rfl, rfl⟩)
    go_ret
    exact ⟨ret_bool (by rw [hT.out]), Below.refl _ _⟩
  obtain ⟨q, rfl⟩ := Int.eq_ofNat_of_zero_le h0
  by_cases h1 : q ≤ n
  case neg =>
    have hT := Lib.hid (pOk_no (r := xs) (c := ys) (t := (q : Int)) (fun h => h1 (by have := h.2.2; rw [hr.1] at this; omega)))
    have h2 : ¬ ((q : Int) ≤ (n : Int)) := by omega
    go_enter Tryz.func58, Tryz.ntmps58
    go_wp2_with (go_at_call 25; refine (SumsValid_c _ _ _ _ _ _ xs ys _ hr hq (by omega) (by omega)).mono ?_; rw [hv]; rintro e w' ⟨rfl, rfl⟩)
    go_ret
    exact ⟨ret_bool (by rw [hT.out]), Below.refl _ _⟩
  have hT := Lib.hid (pOk_yes hv (by rw [hr.1]; exact h1 : q ≤ xs.length))
  have h2 : ((q : Int) ≤ (n : Int)) := by omega
  go_enter Tryz.func58, Tryz.ntmps58
  go_wp2_with fail
  refine (SumsValid_c _ _ _ _ _ _ xs ys _ hr hq (by omega) (by omega)).mono ?_
  rw [hv]
  rintro e w' ⟨rfl, rfl⟩
  have hv' := Lib.hid hv; clear hv
  go_wp2_with fail
  refine (excess_c _ _ _ _ _ _ q xs ys _ hr hq hv'.out h1).mono ?_
  rintro e w1 ⟨rfl, hb1⟩
  go_wp2
  go_ret
  exact ⟨ret_bool (by rw [hT.out]), hb1⟩

/-- what ProofOf hands back -/
def pVal (o : Option Nat) : Value := .tuple #[.int .i64 (o.getD 0 : Nat), .bool o.isSome]
theorem pOf_from {r c : List Int} (h : ∀ s : Nat, s < r.length + 1 → pOk r c (s : Nat) = false) : pOf r c = none := by
  refine List.find?_eq_none.2 (fun s _ => ?_)
  rcases Nat.lt_or_ge s (r.length + 1) with h1 | h1
  · rw [h s h1]; simp
  · rw [pOk_no (fun h2 => by have := h2.2.2; omega)]; simp
theorem pOf_first {r c : List Int} {t : Nat} (h1 : pOk r c (t : Nat) = true) (h : ∀ s : Nat, s < t → pOk r c (s : Nat) = false) : pOf r c = some t := by
  obtain ⟨s, hs, h2⟩ := pOf_isSome h1
  obtain ⟨h3, _⟩ := pOf_some hs
  rcases Nat.lt_or_ge s t with h4 | h4
  · rw [h s h4] at h3; cases h3
  · rw [hs]; congr 1; omega
set_option maxHeartbeats 4000000 in
theorem impl_ProofOf_c (A B : Option Addr) (n m c d : Nat) (xs ys : List Int) (w : World) (hr : Rd w A n xs) (hq : Rd w B m ys) (hn : n ≤ 1048576) (hm : m ≤ 1048576) :
    Calls Tryz.prog 27 #[.slice A n c, .slice B m d] w fun e w' => e = .returned (pVal (pOf xs ys)) ∧ Below w.heap.size w w' := by
  have hxl := Lib.hid hr.1
  go_enter Tryz.func27, Tryz.ntmps27
  go_wp2
  go_loopw [10] (fun i wr => ∃ k : Nat, k ≤ n + 1 ∧ i = .int .i64 k ∧ Below w.heap.size w wr ∧ Hid (∀ s : Nat, s < k → pOk xs ys (s : Nat) = false)) (fun i _ => n + 1 - (intOf i).toNat)
  case atStart => exact ⟨0, Nat.zero_le _, rfl, Below.refl _ _, Lib.hid (fun s h => absurd h (by omega))⟩
  case round =>
    obtain ⟨k, hk, rfl, hbl, hall⟩ := hrel
    by_cases hlt : k < n + 1
    · cases hp : pOk xs ys (k : Nat) with
      | true =>
        have hF := Lib.hid (pOf_first hp hall.out)
        go_wp2_with fail
        refine (impl_ProofOk_c _ _ _ _ _ _ (k : Nat) xs ys _ (hr.next hbl) (hq.next hbl) hn hm).mono ?_
        rw [hp]
        rintro e w1 ⟨rfl, hb1⟩
        go_wp2
        go_ret2
        exact ⟨by rw [hF.out]; rfl, lo_trans hbl hb1⟩
      | false =>
        have hN : Hid (∀ s : Nat, s < k + 1 → pOk xs ys (s : Nat) = false) := Lib.hid (fun s hs => by
          rcases Nat.lt_or_ge s k with h | h
          · exact hall.out s h
          · obtain rfl : s = k := by omega
            exact hp)
        go_wp2_with fail
        refine (impl_ProofOk_c _ _ _ _ _ _ (k : Nat) xs ys _ (hr.next hbl) (hq.next hbl) hn hm).mono ?_
        rw [hp]
        rintro e w1 ⟨rfl, hb1⟩
        go_wp2
        go_roundw
        case rel => exact ⟨k + 1, by omega, by go_num, lo_trans hbl hb1, hN⟩
        case measure => simp [intOf]; omega
    · obtain rfl : k = n + 1 := by omega
      have hF := Lib.hid (pOf_from (fun s hs => hall.out s (by rw [hxl.out] at hs; exact hs)))
      go_wp2
      go_ret2
      exact ⟨by rw [hF.out]; rfl, hbl⟩
end Go.Proofs.YtpeiolimdglmhaaGreatDoor

-- Walks: ProofOk, ProofOf, ProofColumns of the reference.
namespace Go.Proofs.YtpeiolimdglmhaaGreatDoor
open Go.RowKit
set_option maxRecDepth 100000

theorem sV_len {r c : List Int} (h : ¬ (1 ≤ r.length ∧ r.length ≤ 6 ∧ 1 ≤ c.length ∧ c.length ≤ 6)) : sV r c = false := by
  cases e : sV r c with
  | false => rfl
  | true =>
    have := sV_out e
    exact absurd ⟨this.1, this.2.1, this.2.2.1, this.2.2.2.1⟩ h
theorem sV_eq {r c : List Int} (h : 1 ≤ r.length ∧ r.length ≤ 6 ∧ 1 ≤ c.length ∧ c.length ≤ 6) : sV r c = (allIn 0 c.length r && allIn 0 r.length c) := by
  simp [sV, sIn, h]

set_option maxHeartbeats 4000000 in
theorem spec_SumsValid_c (A B : Option Addr) (n m c d : Nat) (xs ys : List Int) (w : World) (hr : Rd w A n xs) (hs : Rd w B m ys) (hn : n ≤ 1073741824) (hm : m ≤ 1073741824) :
    Calls Tryz.prog 26 #[.slice A n c, .slice B m d] w fun e w' => e = .returned (.bool (sV xs ys)) ∧ w = w' := by
  by_cases h1 : 1 ≤ n ∧ n ≤ 6
  case neg =>
    have hT := Lib.hid (sV_len (r := xs) (c := ys) (fun h => h1 (by rw [hr.1] at h; exact ⟨h.1, h.2.1⟩)))
    go_enter Tryz.func26, Tryz.ntmps26
    go_wp2_with fail
    refine (l6In_f _ (by omega)).mono ?_
    rintro e w' ⟨rfl, rfl⟩
    go_wp2
    go_ret
    exact ⟨ret_bool (by rw [hT.out]), rfl⟩
  by_cases h2 : 1 ≤ m ∧ m ≤ 6
  case neg =>
    have hT := Lib.hid (sV_len (r := xs) (c := ys) (fun h => h2 (by rw [hs.1] at h; exact ⟨h.2.2.1, h.2.2.2⟩)))
    go_enter Tryz.func26, Tryz.ntmps26
    go_wp2_with fail
    refine (l6In_t _ (by omega)).mono ?_
    rintro e w' ⟨rfl, rfl⟩
    go_wp2_with fail
    refine (l6In_f _ (by omega)).mono ?_
    rintro e w' ⟨rfl, rfl⟩
    go_wp2
    go_ret
    exact ⟨ret_bool (by rw [hT.out]), rfl⟩
  have hT := Lib.hid (show sV xs ys = (allIn 0 (m : Int) xs && allIn 0 (n : Int) ys) by rw [sV_eq (by rw [hr.1, hs.1]; exact ⟨h1.1, h1.2, h2.1, h2.2⟩), hr.1, hs.1])
  cases h3 : allIn 0 (m : Int) xs with
  | false =>
    have hT2 := Lib.hid (hT.out.trans (by rw [h3]; rfl : _ = false))
    go_enter Tryz.func26, Tryz.ntmps26
    go_wp2_with fail
    refine (l6In_t _ (by omega)).mono ?_
    rintro e w' ⟨rfl, rfl⟩
    go_wp2_with fail
    refine (l6In_t _ (by omega)).mono ?_
    rintro e w' ⟨rfl, rfl⟩
    go_wp2_with fail
    refine (l2Each_c _ _ _ _ _ xs _ hr hn).mono ?_
    rw [h3]
    rintro e w1 ⟨rfl, rfl⟩
    go_wp2
    go_ret
    exact ⟨ret_bool (by rw [hT2.out]), rfl⟩
  | true =>
    have hT2 := Lib.hid (hT.out.trans (by rw [h3]; rfl : _ = allIn 0 (n : Int) ys))
    go_enter Tryz.func26, Tryz.ntmps26
    go_wp2_with fail
    refine (l6In_t _ (by omega)).mono ?_
    rintro e w' ⟨rfl, rfl⟩
    go_wp2_with fail
    refine (l6In_t _ (by omega)).mono ?_
    rintro e w' ⟨rfl, rfl⟩
    go_wp2_with fail
    refine (l2Each_c _ _ _ _ _ xs _ hr hn).mono ?_
    rw [h3]
    rintro e w1 ⟨rfl, rfl⟩
    clear h3
    go_wp2_with fail
    refine (l2Each_c _ _ _ _ _ ys _ hs hm).mono ?_
    rintro e w2 ⟨rfl, rfl⟩
    go_wp2
    go_ret
    exact ⟨ret_bool (by rw [hT2.out]), rfl⟩

/-- what is sorted when k values have been gone through -/
def cDone (xs : List Int) : Nat → List Int
  | 0 => []
  | k + 1 => cDone xs k ++ xs.filter (fun x => decide (x = 6 - (k : Int)))
theorem cDone_all (xs : List Int) : cDone xs 7 = csort xs 6 := by
  simp only [cDone, csort, List.append_assoc, List.nil_append]
  rfl
theorem cDone_len (xs : List Int) : ∀ k : Nat, (cDone xs k).length ≤ k * xs.length
  | 0 => by simp [cDone]
  | k + 1 => by
    have h1 := cDone_len xs k
    have h2 := List.length_filter_le (fun x => decide (x = 6 - (k : Int))) xs
    rw [cDone, List.length_append, Nat.succ_mul]
    omega
theorem filter_snoc (xs : List Int) (v : Int) {k : Nat} (hk : k < xs.length) : (xs.take (k + 1)).filter (fun x => decide (x = v)) = (xs.take k).filter (fun x => decide (x = v)) ++ (if xs[k]?.getD 0 = v then [v] else []) := by
  rw [List.take_succ_eq_append_getElem hk, List.filter_append]
  simp only [List.getElem?_eq_getElem hk, Option.getD_some, List.filter_cons, List.filter_nil]
  by_cases h : xs[k] = v
  · simp [h]
  · simp [h]

/-- a list of one's own, and true -/
def ListOk (w : World) (l : List Int) (e : Ending) (w' : World) : Prop := ∃ R r c', e = .returned (.tuple #[.slice R r c', .bool true]) ∧ Below w.heap.size w w' ∧ Own w' w.heap.size R r l
set_option maxHeartbeats 8000000 in
theorem PartOf_c (A : Option Addr) (n c : Nat) (xs : List Int) (w : World) (hr : Rd w A n xs) (hn : n ≤ 6) (hx : allIn 0 6 xs = true) :
    Calls Tryz.prog 109 #[.slice A n c] w (ListOk w (dsort xs)) := by
  have hxl := Lib.hid hr.1
  have hE := Lib.hid (show cDone xs 7 = dsort xs by rw [cDone_all]; exact csort_eq (allIn_iff.1 hx))
  have hB0 : Buf (w.alloc (.cells #[] 3)) w.heap.size (some ⟨w.heap.size, 0, none⟩) 0 [] := Buf.lit w w.heap.size [] (Nat.le_refl _) (Nat.zero_le _)
  have hL0 := lo_alloc (Below.refl w.heap.size w) (.cells #[] 3)
  go_enter Tryz.func109, Tryz.ntmps109
  go_wp2_with fail
  refine (l2Each_c _ _ _ _ _ xs _ (hr.next hL0) (by omega)).mono ?_
  rw [hx]
  rintro e w1 ⟨rfl, rfl⟩
  clear hx
  go_wp2
  generalize w.alloc (.cells #[] 3) = w1 at hB0 hL0 ⊢
  go_loopw [4, 5, 6] (fun o v i wr => ∃ (k : Nat) (R : Option Addr) (c' : Nat) (q : Int), k ≤ 7 ∧ q ≤ 6 - (k : Int) ∧ 6 - (k : Int) ≤ q ∧ v = .int .i64 q ∧ o = .slice R (cDone xs k).length c' ∧ Buf wr w.heap.size R c' (cDone xs k) ∧ Below w.heap.size w wr) (fun _ v _ _ => (intOf v + 1).toNat)
  case atStart => exact ⟨0, _, _, 6, Nat.zero_le _, by omega, by omega, rfl, rfl, hB0, hL0⟩
  case round =>
    clear hB0 hL0
    obtain ⟨k, R, c', q, hk, hq1, hq2, rfl, rfl, hB, hL⟩ := hrel
    have hz := hL.size
    by_cases hlt : 0 ≤ q
    · have hk7 : k < 7 := by omega
      go_wp2
      go_loopw [4, 6] (fun o i wr => ∃ (j : Nat) (R : Option Addr) (c' : Nat), j ≤ n ∧ i = .int .i64 j ∧ o = .slice R (cDone xs k ++ (xs.take j).filter (fun x => decide (x = q))).length c' ∧ Buf wr w.heap.size R c' (cDone xs k ++ (xs.take j).filter (fun x => decide (x = q))) ∧ Below w.heap.size w wr) (fun _ i _ => n - (intOf i).toNat)
      case atStart => exact ⟨0, R, c', Nat.zero_le _, rfl, by simp, by simpa using hB, hL⟩
      case round =>
        clear hB hL hz
        obtain ⟨j, R, c', hj, rfl, rfl, hB, hL⟩ := hrel
        have hz := hL.size
        by_cases hlt2 : j < n
        · obtain ⟨b, off, rfl, hb, hc⟩ := (hr.next hL).at_ hlt2
          have hS := filter_snoc xs q (hxl.out ▸ hlt2 : j < xs.length)
          have hl1 := cDone_len xs k
          have hl2 := List.length_filter_le (fun x => decide (x = q)) (xs.take j)
          have hl3 : (xs.take j).length ≤ 6 := by rw [List.length_take]; omega
          have hl4 : k * xs.length ≤ 6 * 6 := Nat.mul_le_mul (by omega) (by rw [hxl.out]; exact hn)
          have hlen : (cDone xs k ++ (xs.take j).filter (fun x => decide (x = q))).length ≤ 1000 := by rw [List.length_append]; omega
          clear hl1 hl2 hl3 hl4
          generalize xs[j]?.getD 0 = x at hc hS
          by_cases hxq : x = q
          · subst hxq
            rw [if_pos rfl, ] at hS
            have hN := Lib.hid (show cDone xs k ++ (xs.take (j + 1)).filter (fun y => decide (y = x)) = (cDone xs k ++ (xs.take j).filter (fun y => decide (y = x))) ++ [x] by rw [hS, List.append_assoc])
            clear hS
            generalize cDone xs k ++ (xs.take j).filter (fun y => decide (y = x)) = l at hB hN hlen ⊢
            have hB3 : Buf (wr.alloc (.cells #[.int .i64 x] 3)) w.heap.size R c' l := hB.next (by (repeat (first | exact Below.refl _ _ | assumption | refine lo_alloc ?_ _ | refine lo_set ?_ (by simp; try omega) _ | refine Below.drew ?_ | refine below_drewN ?_ _ | refine lo_trans ?_ (by assumption) | refine lo_wr ?_ (by assumption) (by omega))))
            have hL3 : Below w.heap.size w (wr.alloc (.cells #[.int .i64 x] 3)) := lo_alloc hL _
            have hrd : Rd (wr.alloc (.cells (ints [x]) 3)) (some ⟨wr.heap.size, 0, none⟩) 1 [x] := Rd.of_blk (Blk.new _ _ _)
            have hge := rowA_ge hB3
            clear hB hL
            go_wp2_with (at_builtin; refine (wpl_append rfl _ _ rfl w.heap.size R c' _ _ rfl rfl hB3 _ 1 1 [x] rfl hrd (by omega) (by omega) (by simp; omega) ?_); intro g c4 w4 hB4 hg4 hat)
            have hL4 := lo_grown hL3 hg4 hge
            clear hB3 hL3 hrd hge hg4 hat
            go_roundw
            case rel => exact ⟨j + 1, _, c4, by omega, by go_num, by rw [hN.out, List.length_append]; rfl, by rw [hN.out]; exact hB4, hL4⟩
            case measure => simp [intOf]; omega
          · rw [if_neg hxq, List.append_nil] at hS
            have hS' := Lib.hid hS
            have hxq' : (x == q) = false := beq_eq_false_iff_ne.2 hxq
            clear hS hxq
            go_wp2
            go_roundw
            case rel => exact ⟨j + 1, _, c', by omega, by go_num, by rw [hS'.out], by rw [hS'.out]; exact hB, hL⟩
            case measure => simp [intOf]; omega
        · obtain rfl : j = n := by omega
          have hT := Lib.hid (show cDone xs k ++ (xs.take j).filter (fun x => decide (x = q)) = cDone xs (k + 1) by
            rw [List.take_of_length_le (Nat.le_of_eq hxl.out), cDone, show q = 6 - (k : Int) by omega])
          go_wp2
          go_roundw
          case rel => exact ⟨k + 1, R, c', q - 1, by omega, by omega, by omega, by first | rfl | go_num, by rw [← hT.out], by rw [← hT.out]; exact hB, hL⟩
          case measure => simp [intOf]; omega
    · obtain rfl : k = 7 := by omega
      have hO := hB.own
      rw [hE.out] at hO
      have hlE := Lib.hid (show (cDone xs 7).length = (dsort xs).length by rw [hE.out])
      go_wp2
      go_ret2
      exact ⟨R, _, c', rfl, hL, by rw [hlE.out]; exact hO⟩
end Go.Proofs.YtpeiolimdglmhaaGreatDoor

-- Walks: ProofOk, ProofOf, ProofColumns of the reference (2).
namespace Go.Proofs.YtpeiolimdglmhaaGreatDoor
open Go.RowKit
set_option maxRecDepth 100000

set_option maxHeartbeats 4000000 in
theorem l3Sum_c (A : Option Addr) (n c t : Nat) (M : Int) (xs : List Int) (w : World) (hr : Rd w A n xs) (hn : n ≤ 1000000) (ht : t ≤ 1000000) (hM0 : 0 ≤ M) (hM : M ≤ 1000000) (hx : ∀ x ∈ xs, 0 ≤ x ∧ x ≤ M) :
    Calls Tryz.prog 141 #[.slice A n c, .int .i64 t] w fun e w' => e = .returned (.int .i64 (xs.take t).sum) ∧ w = w' := by
  have hxl := Lib.hid hr.1
  have hx' := Lib.hid hx; clear hx
  go_enter Tryz.func141, Tryz.ntmps141
  go_wp2
  go_loop [5, 6] (fun s i => ∃ k : Nat, k ≤ n ∧ k ≤ t ∧ i = .int .i64 k ∧ s = .int .i64 (xs.take k).sum) (fun _ i => n - (intOf i).toNat)
  case atStart => exact ⟨0, Nat.zero_le _, Nat.zero_le _, rfl, by simp⟩
  case round =>
    obtain ⟨k, hk, hkt, rfl, rfl⟩ := hrel
    by_cases hlt : k < n
    · by_cases hlt2 : k < t
      · obtain ⟨b, off, rfl, hb, hc⟩ := hr.at_ hlt
        have hN := Lib.hid (sum_snoc xs (hxl.out ▸ hlt : k < xs.length))
        have h1 := sum_take_bd hx'.out hM hM0 (by rw [hxl.out]; exact hn) k
        have h2 := hx'.out _ (mem_at (hxl.out ▸ hlt : k < xs.length))
        generalize (xs.take k).sum = s at hN h1 ⊢
        go_wp2
        go_round
        case rel => exact ⟨k + 1, by omega, by omega, by go_num, by rw [hN.out]⟩
        case measure => simp [intOf]; omega
      · obtain rfl : k = t := by omega
        go_wp2
        go_ret
        exact ⟨rfl, rfl⟩
    · obtain rfl : k = n := by omega
      have hF := Lib.hid (show (xs.take t).sum = (xs.take k).sum by rw [List.take_of_length_le (by rw [hxl.out]; exact hkt), List.take_of_length_le (Nat.le_of_eq hxl.out)])
      go_wp2
      go_ret
      exact ⟨by rw [hF.out]; rfl, rfl⟩

end Go.Proofs.YtpeiolimdglmhaaGreatDoor

-- Walks: the order of a list's places by descending value; the image that is built of sums.
namespace Go.Proofs.YtpeiolimdglmhaaGreatDoor
open Go.RowKit Go.Shelf
set_option maxRecDepth 100000

def ordK (b0 gl n c : Nat) (L : List Int) (W : World) : Prop := Blk W b0 23 #[.slice (some ⟨gl, 0, none⟩) n c] ∧ Own W 0 (some ⟨gl, 0, none⟩) n L

set_option maxHeartbeats 2000000 in
theorem ord_call (b0 gl n c : Nat) (L : List Int) (hL : ∀ x ∈ L, -1000 ≤ x ∧ x ≤ 1000) (W : World) (x y : Int) (hk : ordK b0 gl n c L W) (hx : 0 ≤ x ∧ x < n) (hy : 0 ≤ y ∧ y < n) :
    Calls Tryz.prog 138 (#[.int .i64 x, .int .i64 y] ++ #[.pointer (some ⟨b0, 0, none⟩)]) W fun e w' => e = .returned (.int .i64 (L[y.toNat]?.getD 0 - L[x.toNat]?.getD 0)) ∧ Below W.heap.size W w' := by
  obtain ⟨hB, hO⟩ := hk
  have hxl := Lib.hid hO.1
  obtain ⟨p, rfl⟩ := Int.eq_ofNat_of_zero_le hx.1
  obtain ⟨q, rfl⟩ := Int.eq_ofNat_of_zero_le hy.1
  have hp1 : (0 : Int) ≤ (p : Int) := by omega
  have hp2 : (p : Int) < (n : Int) := by omega
  have hq1 : (0 : Int) ≤ (q : Int) := by omega
  have hq2 : (q : Int) < (n : Int) := by omega
  have hvp := hL _ (mem_at (show p < L.length by rw [hxl.out]; omega))
  have hvq := hL _ (mem_at (show q < L.length by rw [hxl.out]; omega))
  have cp := (hO.cellSet' (k := p) (by omega)).2.2.1
  have cq := (hO.cellSet' (k := q) (by omega)).2.2.1
  have c0 := hB.cell 0
  simp only [Int.toNat_natCast]
  generalize L[p]?.getD 0 = vp at cp hvp ⊢
  generalize L[q]?.getD 0 = vq at cq hvq ⊢
  clear hL hx hy hB hO
  simp only [List.append_toArray, List.cons_append, List.nil_append]
  have hw := Lib.hid (show IntKind.i64.wrap (vq - vp) = vq - vp from IntWalk.i64_in _ (by omega))
  go_enter Tryz.func138, Tryz.ntmps138
  go_wp2
  go_region_held3 (fun w' => w'.cell? ⟨b0, 0, none⟩ = some (.slice (some ⟨gl, 0, none⟩) n c) ∧ w'.cell? ⟨gl, p, none⟩ = some (.int .i64 vp) ∧ w'.cell? ⟨gl, q, none⟩ = some (.int .i64 vq)) (go_keep) (fail)
  go_wp2
  go_ret
  exact ⟨by show Ending.returned (.int .i64 (IntKind.i64.wrap (vq - vp))) = _; rw [hw.out], by (repeat (first | exact Below.refl _ _ | assumption | refine lo_alloc ?_ _ | refine lo_set ?_ (by simp; try omega) _ | refine Below.drew ?_ | refine below_drewN ?_ _ | refine lo_trans ?_ (by assumption) | refine lo_wr ?_ (by assumption) (by omega)))⟩

theorem ord_cmp (b0 gl n c : Nat) (L : List Int) (g : Nat) (hL : ∀ x ∈ L, -1000 ≤ x ∧ x ≤ 1000) (h1 : b0 ≠ g) (h2 : gl ≠ g) :
    Cmp 138 #[.pointer (some ⟨b0, 0, none⟩)] (fun x y => L[y.toNat]?.getD 0 - L[x.toNat]?.getD 0) (fun x => 0 ≤ x ∧ x < n) g (ordK b0 gl n c L) where
  ent := enters_of Tryz.func138 (by kernel_rfl) rfl
  next := fun h hb => ⟨h.1.next hb, h.2.next hb⟩
  set_ := fun i v h => ⟨h.1.far (p := ⟨g, i, none⟩) h1 v, h.2.far (p := ⟨g, i, none⟩) (by rintro g' ⟨⟩; exact h2) v⟩
  call := fun hk hx hy => ord_call b0 gl n c L hL _ _ _ hk hx hy

set_option maxHeartbeats 2000000 in
theorem stable_c (F : Nat) (cap : Array Value) (cf : Int → Int → Int) (ok : Int → Prop) (lo g n c : Nat) (Kp : World → Prop) (xs : List Int) (w : World) (hC : Cmp F cap cf ok g Kp) (ho : Own w lo (some ⟨g, 0, none⟩) n xs) (hk : Kp w) (hn : n ≤ 12) (hok : ∀ x ∈ xs, ok x) :
    Calls Tryz.prog 158 #[.slice (some ⟨g, 0, none⟩) n c, .int .i64 n, .func (.func F) #[] cap] w fun e w' => e = .returned (.tuple #[]) ∧ SI w w' lo g n Kp (isort (ltC cf) xs) := by
  have hC' := Lib.hid hC; clear hC
  have hok' := Lib.hid hok; clear hok
  have hk' := Lib.hid hk; clear hk
  have hn20 : ¬ (20 : Int) ≤ (n : Int) := by omega
  have hn21 : ¬ (20 : Int) < (n : Int) := by omega
  go_enter Tryz.func158, Tryz.ntmps158
  go_wp2
  refine wp_loop_rounds 1 ?_
  rw [rounds_succ]
  go_wp2_with fail
  refine (insertion_c F cap cf ok lo g n c Kp xs _ hC'.out ho hk'.out (by omega) hok'.out).mono ?_
  rintro e w1 ⟨rfl, hI⟩
  go_wp2
  refine wp_loop_rounds 1 ?_
  rw [rounds_succ]
  go_wp2
  go_end0
  exact ⟨rfl, hI⟩

set_option maxHeartbeats 2000000 in
theorem SortStable_c (F : Nat) (cap : Array Value) (cf : Int → Int → Int) (ok : Int → Prop) (lo g n c : Nat) (Kp : World → Prop) (xs : List Int) (w : World) (hC : Cmp F cap cf ok g Kp) (ho : Own w lo (some ⟨g, 0, none⟩) n xs) (hk : Kp w) (hn : n ≤ 12) (hok : ∀ x ∈ xs, ok x) :
    Calls Tryz.prog 137 #[.slice (some ⟨g, 0, none⟩) n c, .func (.func F) #[] cap] w fun e w' => e = .returned (.tuple #[]) ∧ SI w w' lo g n Kp (isort (ltC cf) xs) := by
  have hC' := Lib.hid hC; clear hC
  have hok' := Lib.hid hok; clear hok
  have hk' := Lib.hid hk; clear hk
  go_enter Tryz.func137, Tryz.ntmps137
  go_wp2_with fail
  refine (stable_c F cap cf ok lo g n c Kp xs _ hC'.out ho hk'.out hn hok'.out).mono ?_
  rintro e w1 ⟨rfl, hI⟩
  go_wp2
  go_end0
  exact ⟨rfl, hI⟩

end Go.Proofs.YtpeiolimdglmhaaGreatDoor
