/- Plain facts and walks that the law's proof uses; each says its own conditions. -/
import Derived.Test.YtpeiolimdglmhaaGreatDoorZ13
import Derived.Test.YtpeiolimdglmhaaGreatDoorZ10
import Derived.Test.YtpeiolimdglmhaaGreatDoorZ11
import Derived.Shelf.Abstract
-- Plain facts and walks that the law's proof uses; each says its own conditions.
namespace Go.Proofs.YtpeiolimdglmhaaGreatDoor
open Go.RowKit Go.Shelf
set_option maxRecDepth 100000

theorem desc_cmp (g : Nat) : Cmp 136 #[] (fun x y => y - x) (fun x => -1000 ≤ x ∧ x ≤ 1000) g (fun _ => True) where
  ent := enters_of Tryz.func136 (by kernel_rfl) rfl
  next := fun _ _ => trivial
  set_ := fun _ _ _ => trivial
  call := by
    intro W x y _ hx hy
    simp only [Array.append_empty]
    go_enter Tryz.func136, Tryz.ntmps136
    go_wp2
    go_ret
    exact ⟨rfl, Below.refl _ _⟩

set_option maxHeartbeats 1000000 in
theorem bitsLen_c (n : Int) (w : World) (h0 : 0 ≤ n) (hn : n ≤ 255) : Calls Tryz.prog 157 #[.int .u64 n] w fun e w' => (∃ k : Int, e = .returned (.int .i64 k)) ∧ w = w' := by
  go_enter Tryz.func157, Tryz.ntmps157
  go_wp2
  go_ret
  exact ⟨⟨_, rfl⟩, rfl⟩

set_option maxHeartbeats 4000000 in
theorem pdq_c (F : Nat) (cap : Array Value) (cf : Int → Int → Int) (ok : Int → Prop) (lo g n c : Nat) (lim : Int) (Kp : World → Prop) (xs : List Int) (w : World) (hC : Cmp F cap cf ok g Kp) (ho : Own w lo (some ⟨g, 0, none⟩) n xs) (hk : Kp w) (hn : n ≤ 12) (hok : ∀ x ∈ xs, ok x) :
    Calls Tryz.prog 156 #[.slice (some ⟨g, 0, none⟩) n c, .int .i64 0, .int .i64 n, .int .i64 lim, .func (.func F) #[] cap] w fun e w' => e = .returned (.tuple #[]) ∧ SI w w' lo g n Kp (isort (ltC cf) xs) := by
  have hC' := Lib.hid hC; clear hC
  have hok' := Lib.hid hok; clear hok
  have hk' := Lib.hid hk; clear hk
  go_enter Tryz.func156, Tryz.ntmps156
  go_wp2
  refine wp_loop_rounds 1 ?_
  rw [rounds_succ]
  go_wp2_with fail
  refine (insertion_c F cap cf ok lo g n c Kp xs _ hC'.out ho hk'.out (by omega) hok'.out).mono ?_
  rintro e w1 ⟨rfl, hI⟩
  go_wp2
  refine bodyPost_ret (results_none rfl _ _ _) rfl ?_
  exact ⟨rfl, hI⟩

set_option maxHeartbeats 4000000 in
theorem SortFunc_c (F : Nat) (cap : Array Value) (cf : Int → Int → Int) (ok : Int → Prop) (lo g n c : Nat) (Kp : World → Prop) (xs : List Int) (w : World) (hC : Cmp F cap cf ok g Kp) (ho : Own w lo (some ⟨g, 0, none⟩) n xs) (hk : Kp w) (hn : n ≤ 12) (hok : ∀ x ∈ xs, ok x) :
    Calls Tryz.prog 135 #[.slice (some ⟨g, 0, none⟩) n c, .func (.func F) #[] cap] w fun e w' => e = .returned (.tuple #[]) ∧ SI w w' lo g n Kp (isort (ltC cf) xs) := by
  have hC' := Lib.hid hC; clear hC
  have hok' := Lib.hid hok; clear hok
  have hk' := Lib.hid hk; clear hk
  go_enter Tryz.func135, Tryz.ntmps135
  go_wp2_with fail
  refine (bitsLen_c _ _ (by omega) (by omega)).mono ?_
  rintro e w1 ⟨⟨k, rfl⟩, rfl⟩
  go_wp2_with fail
  refine (pdq_c F cap cf ok lo g n c k Kp xs _ hC'.out ho hk'.out hn hok'.out).mono ?_
  rintro e w1 ⟨rfl, hI⟩
  go_wp2
  go_end0
  exact ⟨rfl, hI⟩

set_option maxHeartbeats 4000000 in
theorem sorted_c (A : Option Addr) (n c : Nat) (xs : List Int) (w : World) (hr : Rd w A n xs) (hn0 : 0 < n) (hn : n ≤ 12) (hok : ∀ x ∈ xs, -1000 ≤ x ∧ x ≤ 1000) :
    Calls Tryz.prog 106 #[.slice A n c] w fun e w' => ∃ g c', e = .returned (.slice (some ⟨g, 0, none⟩) n c') ∧ Below w.heap.size w w' ∧ Own w' w.heap.size (some ⟨g, 0, none⟩) n (dsort xs) ∧ n ≤ c' ∧ c' ≤ maxLen := by
  have hok' := Lib.hid hok; clear hok
  have hE := Lib.hid (show isort (ltC (fun x y => y - x)) xs = dsort xs by
    unfold dsort
    congr 1
    funext x y
    unfold ltC
    rw [Bool.eq_iff_iff]; simp; omega)
  go_enter Tryz.func106, Tryz.ntmps106
  go_wp2_with fail
  refine (Clone_c2 _ _ _ xs _ hr hn0 (by omega)).mono ?_
  rintro e w1 ⟨g, c', rfl, hb1, ho1, hc1, hc2⟩
  go_wp2_with fail
  refine (SortFunc_c _ _ _ _ w.heap.size g n c' (fun _ => True) xs _ (desc_cmp g) ho1 trivial hn hok'.out).mono ?_
  rintro e w2 ⟨rfl, hI⟩
  have hI' := Lib.hid hI; clear hI
  go_wp2
  go_ret
  refine ⟨g, c', rfl, ?_, by rw [← hE.out]; exact hI'.out.ow, hc1, hc2⟩
  refine lo_grown hb1 hI'.out.gr ?_
  rintro _ ⟨⟩
  obtain ⟨g', _, e, h1, _⟩ := ho1.2 hn0
  cases e
  exact h1
end Go.Proofs.YtpeiolimdglmhaaGreatDoor

-- Walks: the excess; ProofOk, ProofOf, ProofColumns of the program.
namespace Go.Proofs.YtpeiolimdglmhaaGreatDoor
open Go.RowKit
set_option maxRecDepth 100000

theorem Rd.take {w : World} {A : Option Addr} {n k : Nat} {xs : List Int} (h : Rd w A n xs) (hk : k ≤ n) : Rd w A k (xs.take k) :=
  ⟨by rw [List.length_take, h.1]; omega, fun hk0 => by
    obtain ⟨b, off, e, hb, hc⟩ := h.2 (by omega)
    refine ⟨b, off, e, hb, fun j x hx => hc j x ?_⟩
    rw [List.getElem?_take] at hx
    split at hx
    · exact hx
    · cases hx⟩
/-- Σ min over the first k -/
theorem mSum_snoc (cols : List Int) (t : Int) {k : Nat} (hk : k < cols.length) : mSum (cols.take (k + 1)) t = mSum (cols.take k) t + min (cols[k]?.getD 0) t := by
  rw [List.take_succ_eq_append_getElem hk, mSum, List.map_append, List.sum_append]
  simp [mSum, List.getElem?_eq_getElem hk]
theorem mSum_bd {cols : List Int} {t : Int} (h : ∀ x ∈ cols, 0 ≤ x ∧ x ≤ 6) (ht : 0 ≤ t) : 0 ≤ mSum cols t ∧ mSum cols t ≤ 6 * cols.length := by
  have h1 := mSum_le_sum cols t
  have h2 := sum_bd (M := 6) h
  have h3 := mSum_nonneg (c := cols) (t := t) (fun x hx => (h x hx).1) ht
  omega

set_option maxHeartbeats 4000000 in
theorem excess_c (A B : Option Addr) (n m c d t : Nat) (xs ys : List Int) (w : World) (hr : Rd w A n xs) (hq : Rd w B m ys) (hv : sV xs ys = true) (ht : t ≤ n) :
    Calls Tryz.prog 99 #[.slice A n c, .slice B m d, .int .i64 t] w fun e w' => e = .returned (.int .i64 (exc xs ys t)) ∧ Below w.heap.size w w' := by
  obtain ⟨b1, b2, b3, b4, b5, b6⟩ := sV_out hv
  rw [hr.1] at b1 b2
  rw [hq.1] at b3 b4 b5
  rw [hr.1] at b6
  have b5' := Lib.hid b5
  have hy6 := Lib.hid (show ∀ x ∈ ys, 0 ≤ x ∧ x ≤ 6 from fun x hx => by have := b6 x hx; omega)
  have hyl := Lib.hid hq.1
  have hds := Lib.hid (show ∀ x ∈ (dsort xs).take t, 0 ≤ x ∧ x ≤ 6 from fun x hx => by have := b5 x ((dsort_perm xs).mem_iff.1 (List.mem_of_mem_take hx)); omega)
  have hdl := sum_bd hds.out
  have hdl2 : ((dsort xs).take t).length ≤ 6 := by rw [List.length_take]; omega
  clear b5 b6 hv
  have hE := Lib.hid (show exc xs ys t = ((dsort xs).take t).sum - mSum ys t from rfl)
  go_enter Tryz.func99, Tryz.ntmps99
  go_wp2_with fail
  refine (sorted_c A n c xs _ hr (by omega) (by omega) (fun x hx => by have := b5'.out x hx; omega)).mono ?_
  rintro e w1 ⟨g, c', rfl, hb1, ho1, hc1, hc2⟩
  unfold maxLen at hc2
  have hR := ho1.rd.take ht
  clear ho1
  go_wp2_with fail
  refine (total_c _ _ _ 6 _ _ hR (by omega) (by omega) (by omega) hds.out).mono ?_
  rintro e w2 ⟨rfl, rfl⟩
  obtain ⟨S, hS⟩ : ∃ S, S = ((dsort xs).take t).sum := ⟨_, rfl⟩
  rw [← hS] at hdl hE ⊢
  have hS' := Lib.hid hS
  have hE' := Lib.hid hE.out
  clear hS hE hR
  go_wp2
  go_loop [7, 17] (fun s i => ∃ k : Nat, k ≤ m ∧ i = .int .i64 k ∧ s = .int .i64 (S - mSum (ys.take k) t)) (fun _ i => m - (intOf i).toNat)
  case atStart => exact ⟨0, Nat.zero_le _, rfl, by simp [mSum]⟩
  case round =>
    obtain ⟨k, hk, rfl, rfl⟩ := hrel
    by_cases hlt : k < m
    · obtain ⟨b, off, rfl, hb, hc⟩ := (hq.next hb1).at_ hlt
      have hN := Lib.hid (mSum_snoc ys (t : Int) (hyl.out ▸ hlt : k < ys.length))
      have hcy := hy6.out _ (mem_at (hyl.out ▸ hlt : k < ys.length))
      have hmb := mSum_bd (cols := ys.take k) (t := (t : Int)) (fun x hx => hy6.out x (List.mem_of_mem_take hx)) (by omega)
      have hml : (ys.take k).length ≤ 6 := by rw [List.length_take]; omega
      generalize mSum (ys.take k) t = M at hN hmb ⊢
      generalize ys[k]?.getD 0 = y at hc hN hcy ⊢
      rw [show min y (t : Int) = if y ≤ t then y else (t : Int) from rfl] at hN
      by_cases hyt : y ≤ (t : Int)
      · have hN2 := Lib.hid (hN.out.trans (by rw [if_pos hyt]))
        clear hN
        go_wp2
        refine ⟨⟨k + 1, by omega, by go_num, by first | (rw [hN2.out, Int.sub_sub]; done) | (rw [hN2.out]; congr 1; omega)⟩, ?_⟩
        simp [intOf]; omega
      · have hN2 := Lib.hid (hN.out.trans (by rw [if_neg hyt]))
        have hyt2 : (t : Int) < y := by omega
        clear hN
        go_wp2
        refine ⟨⟨k + 1, by omega, by go_num, by first | (rw [hN2.out, Int.sub_sub]; done) | (rw [hN2.out]; congr 1; omega)⟩, ?_⟩
        simp [intOf]; omega
    · obtain rfl : k = m := by omega
      have hF := Lib.hid (show ys.take k = ys by rw [List.take_of_length_le (Nat.le_of_eq hyl.out)])
      go_wp2
      go_ret
      exact ⟨by rw [hE'.out, ← hF.out, List.take_take, Nat.min_self]; rfl, hb1⟩

theorem pOk_no {r c : List Int} {t : Int} (h : ¬ (sV r c = true ∧ 0 ≤ t ∧ t ≤ r.length)) : pOk r c t = false := by
  cases e : pOk r c t with
  | false => rfl
  | true => exact absurd (pOk_iff.1 e) (fun h1 => h ⟨h1.1, h1.2.1, h1.2.2.1⟩)
theorem pOk_yes {r c : List Int} {t : Nat} (h1 : sV r c = true) (h3 : t ≤ r.length) : pOk r c (t : Nat) = decide (0 < exc r c t) := by
  have h3' : (t : Int) ≤ r.length := by omega
  simp [pOk, h1, h3']
set_option maxHeartbeats 4000000 in
theorem impl_ProofOk_c (A B : Option Addr) (n m c d : Nat) (t : Int) (xs ys : List Int) (w : World) (hr : Rd w A n xs) (hq : Rd w B m ys) (hn : n ≤ 1048576) (hm : m ≤ 1048576) :
    Calls Tryz.prog 58 #[.slice A n c, .slice B m d, .int .i64 t] w fun e w' => e = .returned (.bool (pOk xs ys t)) ∧ Below w.heap.size w w' := by
  cases hv : sV xs ys with
  | false =>
    have hT := Lib.hid (pOk_no (r := xs) (c := ys) (t := t) (fun h => by rw [hv] at h; cases h.1))
    go_enter Tryz.func58, Tryz.ntmps58
    go_wp2_with (go_at_call 25; refine (SumsValid_c _ _ _ _ _ _ xs ys _ hr hq (by omega) (by omega)).mono ?_; rw [hv]; rintro e w' ⟨rfl, rfl⟩)
    go_ret
    exact ⟨ret_bool (by rw [hT.out]), Below.refl _ _⟩
  | true =>
  by_cases h0 : 0 ≤ t
  case neg =>
    have hT := Lib.hid (pOk_no (r := xs) (c := ys) (t := t) (fun h => h0 h.2.1))
    go_enter Tryz.func58, Tryz.ntmps58
    go_wp2_with (go_at_call 25; refine (SumsValid_c _ _ _ _ _ _ xs ys _ hr hq (by omega) (by omega)).mono ?_; rw [hv]; rintro e w' ⟨rfl, rfl⟩)
    go_ret
    exact ⟨ret_bool (by rw [hT.out]), Below.refl _ _⟩
  obtain ⟨q, rfl⟩ := Int.eq_ofNat_of_zero_le h0
  by_cases h1 : q ≤ n
  case neg =>
    have hT := Lib.hid (pOk_no (r := xs) (c := ys) (t := (q : Int)) (fun h => h1 (by have := h.2.2; rw [hr.1] at this; omega)))
    have h2 : ¬ ((q : Int) ≤ (n : Int)) := by omega
    go_enter Tryz.func58, Tryz.ntmps58
    go_wp2_with (go_at_call 25; refine (SumsValid_c _ _ _ _ _ _ xs ys _ hr hq (by omega) (by omega)).mono ?_; rw [hv]; rintro e w' ⟨rfl, rfl⟩)
    go_ret
    exact ⟨ret_bool (by rw [hT.out]), Below.refl _ _⟩
  have hT := Lib.hid (pOk_yes hv (by rw [hr.1]; exact h1 : q ≤ xs.length))
  have h2 : ((q : Int) ≤ (n : Int)) := by omega
  go_enter Tryz.func58, Tryz.ntmps58
  go_wp2_with fail
  refine (SumsValid_c _ _ _ _ _ _ xs ys _ hr hq (by omega) (by omega)).mono ?_
  rw [hv]
  rintro e w' ⟨rfl, rfl⟩
  have hv' := Lib.hid hv; clear hv
  go_wp2_with fail
  refine (excess_c _ _ _ _ _ _ q xs ys _ hr hq hv'.out h1).mono ?_
  rintro e w1 ⟨rfl, hb1⟩
  go_wp2
  go_ret
  exact ⟨ret_bool (by rw [hT.out]), hb1⟩

/-- what ProofOf hands back -/
def pVal (o : Option Nat) : Value := .tuple #[.int .i64 (o.getD 0 : Nat), .bool o.isSome]
theorem pOf_from {r c : List Int} (h : ∀ s : Nat, s < r.length + 1 → pOk r c (s : Nat) = false) : pOf r c = none := by
  refine List.find?_eq_none.2 (fun s _ => ?_)
  rcases Nat.lt_or_ge s (r.length + 1) with h1 | h1
  · rw [h s h1]; simp
  · rw [pOk_no (fun h2 => by have := h2.2.2; omega)]; simp
theorem pOf_first {r c : List Int} {t : Nat} (h1 : pOk r c (t : Nat) = true) (h : ∀ s : Nat, s < t → pOk r c (s : Nat) = false) : pOf r c = some t := by
  obtain ⟨s, hs, h2⟩ := pOf_isSome h1
  obtain ⟨h3, _⟩ := pOf_some hs
  rcases Nat.lt_or_ge s t with h4 | h4
  · rw [h s h4] at h3; cases h3
  · rw [hs]; congr 1; omega
set_option maxHeartbeats 4000000 in
theorem impl_ProofOf_c (A B : Option Addr) (n m c d : Nat) (xs ys : List Int) (w : World) (hr : Rd w A n xs) (hq : Rd w B m ys) (hn : n ≤ 1048576) (hm : m ≤ 1048576) :
    Calls Tryz.prog 27 #[.slice A n c, .slice B m d] w fun e w' => e = .returned (pVal (pOf xs ys)) ∧ Below w.heap.size w w' := by
  have hxl := Lib.hid hr.1
  go_enter Tryz.func27, Tryz.ntmps27
  go_wp2
  go_loopw [10] (fun i wr => ∃ k : Nat, k ≤ n + 1 ∧ i = .int .i64 k ∧ Below w.heap.size w wr ∧ Hid (∀ s : Nat, s < k → pOk xs ys (s : Nat) = false)) (fun i _ => n + 1 - (intOf i).toNat)
  case atStart => exact ⟨0, Nat.zero_le _, rfl, Below.refl _ _, Lib.hid (fun s h => absurd h (by omega))⟩
  case round =>
    obtain ⟨k, hk, rfl, hbl, hall⟩ := hrel
    by_cases hlt : k < n + 1
    · cases hp : pOk xs ys (k : Nat) with
      | true =>
        have hF := Lib.hid (pOf_first hp hall.out)
        go_wp2_with fail
        refine (impl_ProofOk_c _ _ _ _ _ _ (k : Nat) xs ys _ (hr.next hbl) (hq.next hbl) hn hm).mono ?_
        rw [hp]
        rintro e w1 ⟨rfl, hb1⟩
        go_wp2
        go_ret2
        exact ⟨by rw [hF.out]; rfl, lo_trans hbl hb1⟩
      | false =>
        have hN : Hid (∀ s : Nat, s < k + 1 → pOk xs ys (s : Nat) = false) := Lib.hid (fun s hs => by
          rcases Nat.lt_or_ge s k with h | h
          · exact hall.out s h
          · obtain rfl : s = k := by omega
            exact hp)
        go_wp2_with fail
        refine (impl_ProofOk_c _ _ _ _ _ _ (k : Nat) xs ys _ (hr.next hbl) (hq.next hbl) hn hm).mono ?_
        rw [hp]
        rintro e w1 ⟨rfl, hb1⟩
        go_wp2
        go_roundw
        case rel => exact ⟨k + 1, by omega, by go_num, lo_trans hbl hb1, hN⟩
        case measure => simp [intOf]; omega
    · obtain rfl : k = n + 1 := by omega
      have hF := Lib.hid (pOf_from (fun s hs => hall.out s (by rw [hxl.out] at hs; exact hs)))
      go_wp2
      go_ret2
      exact ⟨by rw [hF.out]; rfl, hbl⟩
end Go.Proofs.YtpeiolimdglmhaaGreatDoor

-- Walks: ProofOk, ProofOf, ProofColumns of the reference.
namespace Go.Proofs.YtpeiolimdglmhaaGreatDoor
open Go.RowKit
set_option maxRecDepth 100000

theorem sV_len {r c : List Int} (h : ¬ (1 ≤ r.length ∧ r.length ≤ 6 ∧ 1 ≤ c.length ∧ c.length ≤ 6)) : sV r c = false := by
  cases e : sV r c with
  | false => rfl
  | true =>
    have := sV_out e
    exact absurd ⟨this.1, this.2.1, this.2.2.1, this.2.2.2.1⟩ h
end Go.Proofs.YtpeiolimdglmhaaGreatDoor

-- Walks: ProofOk, ProofOf, ProofColumns of the reference (2).
namespace Go.Proofs.YtpeiolimdglmhaaGreatDoor
open Go.RowKit
set_option maxRecDepth 100000

end Go.Proofs.YtpeiolimdglmhaaGreatDoor

-- Walks: the order of a list's places by descending value; the image that is built of sums.
namespace Go.Proofs.YtpeiolimdglmhaaGreatDoor
open Go.RowKit Go.Shelf
set_option maxRecDepth 100000

def ordK (b0 gl n c : Nat) (L : List Int) (W : World) : Prop := Blk W b0 23 #[.slice (some ⟨gl, 0, none⟩) n c] ∧ Own W 0 (some ⟨gl, 0, none⟩) n L

set_option maxHeartbeats 2000000 in
theorem ord_call (b0 gl n c : Nat) (L : List Int) (hL : ∀ x ∈ L, -1000 ≤ x ∧ x ≤ 1000) (W : World) (x y : Int) (hk : ordK b0 gl n c L W) (hx : 0 ≤ x ∧ x < n) (hy : 0 ≤ y ∧ y < n) :
    Calls Tryz.prog 138 (#[.int .i64 x, .int .i64 y] ++ #[.pointer (some ⟨b0, 0, none⟩)]) W fun e w' => e = .returned (.int .i64 (L[y.toNat]?.getD 0 - L[x.toNat]?.getD 0)) ∧ Below W.heap.size W w' := by
  obtain ⟨hB, hO⟩ := hk
  have hxl := Lib.hid hO.1
  obtain ⟨p, rfl⟩ := Int.eq_ofNat_of_zero_le hx.1
  obtain ⟨q, rfl⟩ := Int.eq_ofNat_of_zero_le hy.1
  have hp1 : (0 : Int) ≤ (p : Int) := by omega
  have hp2 : (p : Int) < (n : Int) := by omega
  have hq1 : (0 : Int) ≤ (q : Int) := by omega
  have hq2 : (q : Int) < (n : Int) := by omega
  have hvp := hL _ (mem_at (show p < L.length by rw [hxl.out]; omega))
  have hvq := hL _ (mem_at (show q < L.length by rw [hxl.out]; omega))
  have cp := (hO.cellSet' (k := p) (by omega)).2.2.1
  have cq := (hO.cellSet' (k := q) (by omega)).2.2.1
  have c0 := hB.cell 0
  simp only [Int.toNat_natCast]
  generalize L[p]?.getD 0 = vp at cp hvp ⊢
  generalize L[q]?.getD 0 = vq at cq hvq ⊢
  clear hL hx hy hB hO
  simp only [List.append_toArray, List.cons_append, List.nil_append]
  have hw := Lib.hid (show IntKind.i64.wrap (vq - vp) = vq - vp from IntWalk.i64_in _ (by omega))
  go_enter Tryz.func138, Tryz.ntmps138
  go_wp2
  go_region_held3 (fun w' => w'.cell? ⟨b0, 0, none⟩ = some (.slice (some ⟨gl, 0, none⟩) n c) ∧ w'.cell? ⟨gl, p, none⟩ = some (.int .i64 vp) ∧ w'.cell? ⟨gl, q, none⟩ = some (.int .i64 vq)) (go_keep) (fail)
  go_wp2
  go_ret
  exact ⟨by show Ending.returned (.int .i64 (IntKind.i64.wrap (vq - vp))) = _; rw [hw.out], by (repeat (first | exact Below.refl _ _ | assumption | refine lo_alloc ?_ _ | refine lo_set ?_ (by simp; try omega) _ | refine Below.drew ?_ | refine below_drewN ?_ _ | refine lo_trans ?_ (by assumption) | refine lo_wr ?_ (by assumption) (by omega)))⟩

theorem ord_cmp (b0 gl n c : Nat) (L : List Int) (g : Nat) (hL : ∀ x ∈ L, -1000 ≤ x ∧ x ≤ 1000) (h1 : b0 ≠ g) (h2 : gl ≠ g) :
    Cmp 138 #[.pointer (some ⟨b0, 0, none⟩)] (fun x y => L[y.toNat]?.getD 0 - L[x.toNat]?.getD 0) (fun x => 0 ≤ x ∧ x < n) g (ordK b0 gl n c L) where
  ent := enters_of Tryz.func138 (by kernel_rfl) rfl
  next := fun h hb => ⟨h.1.next hb, h.2.next hb⟩
  set_ := fun i v h => ⟨h.1.far (p := ⟨g, i, none⟩) h1 v, h.2.far (p := ⟨g, i, none⟩) (by rintro g' ⟨⟩; exact h2) v⟩
  call := fun hk hx hy => ord_call b0 gl n c L hL _ _ _ hk hx hy

set_option maxHeartbeats 2000000 in
theorem stable_c (F : Nat) (cap : Array Value) (cf : Int → Int → Int) (ok : Int → Prop) (lo g n c : Nat) (Kp : World → Prop) (xs : List Int) (w : World) (hC : Cmp F cap cf ok g Kp) (ho : Own w lo (some ⟨g, 0, none⟩) n xs) (hk : Kp w) (hn : n ≤ 12) (hok : ∀ x ∈ xs, ok x) :
    Calls Tryz.prog 158 #[.slice (some ⟨g, 0, none⟩) n c, .int .i64 n, .func (.func F) #[] cap] w fun e w' => e = .returned (.tuple #[]) ∧ SI w w' lo g n Kp (isort (ltC cf) xs) := by
  have hC' := Lib.hid hC; clear hC
  have hok' := Lib.hid hok; clear hok
  have hk' := Lib.hid hk; clear hk
  have hn20 : ¬ (20 : Int) ≤ (n : Int) := by omega
  have hn21 : ¬ (20 : Int) < (n : Int) := by omega
  go_enter Tryz.func158, Tryz.ntmps158
  go_wp2
  refine wp_loop_rounds 1 ?_
  rw [rounds_succ]
  go_wp2_with fail
  refine (insertion_c F cap cf ok lo g n c Kp xs _ hC'.out ho hk'.out (by omega) hok'.out).mono ?_
  rintro e w1 ⟨rfl, hI⟩
  go_wp2
  refine wp_loop_rounds 1 ?_
  rw [rounds_succ]
  go_wp2
  go_end0
  exact ⟨rfl, hI⟩

set_option maxHeartbeats 2000000 in
theorem SortStable_c (F : Nat) (cap : Array Value) (cf : Int → Int → Int) (ok : Int → Prop) (lo g n c : Nat) (Kp : World → Prop) (xs : List Int) (w : World) (hC : Cmp F cap cf ok g Kp) (ho : Own w lo (some ⟨g, 0, none⟩) n xs) (hk : Kp w) (hn : n ≤ 12) (hok : ∀ x ∈ xs, ok x) :
    Calls Tryz.prog 137 #[.slice (some ⟨g, 0, none⟩) n c, .func (.func F) #[] cap] w fun e w' => e = .returned (.tuple #[]) ∧ SI w w' lo g n Kp (isort (ltC cf) xs) := by
  have hC' := Lib.hid hC; clear hC
  have hok' := Lib.hid hok; clear hok
  have hk' := Lib.hid hk; clear hk
  go_enter Tryz.func137, Tryz.ntmps137
  go_wp2_with fail
  refine (stable_c F cap cf ok lo g n c Kp xs _ hC'.out ho hk'.out hn hok'.out).mono ?_
  rintro e w1 ⟨rfl, hI⟩
  go_wp2
  go_end0
  exact ⟨rfl, hI⟩

end Go.Proofs.YtpeiolimdglmhaaGreatDoor

-- Plain facts and walks that the law's proof uses; each says its own conditions.
namespace Go.Proofs.YtpeiolimdglmhaaGreatDoor
open Go.RowKit
set_option maxRecDepth 100000

theorem img_row {f : Nat → Nat → Bool} {h m i : Nat} (hm : m ≤ 6) (hi : i < h) : ∃ r : Nat, (img f h m)[i]?.getD 0 = (r : Int) ∧ r < 64 := by
  refine ⟨_, img_get hi, Nat.lt_of_lt_of_le (mkRow_lt _ _) ?_⟩
  exact Nat.pow_le_pow_right (by omega) hm

theorem Buf.set {w : World} {base g c k : Nat} {xs : List Int} (h : Buf w base (some ⟨g, 0, none⟩) c xs) (y : Int) : Buf (w.setCell ⟨g, k, none⟩ (.int .i64 y)) base (some ⟨g, 0, none⟩) c (xs.set k y) := by
  rcases h.2 with ⟨hv, _⟩ | ⟨g', cap, cur, hv, hb, hh, hn, hm, hs, ht⟩
  · injection hv with h1; cases h1
  · injection hv with h1 h2 h3
    injection h1 with h1
    injection h1 with h1
    subst h1
    subst h3
    refine ⟨by simp, .inr ⟨g, c, _, by simp, hb, Blk.set_ hh k _, by simpa using hn, hm, by simpa using hs, ?_⟩⟩
    rw [List.length_set, Array.toList_setIfInBounds, List.take_set, ht, List.map_set]
theorem Buf.mono {w : World} {lo lo' c : Nat} {A : Option Addr} {xs : List Int} (h : Buf w lo A c xs) (hl : lo' ≤ lo) : Buf w lo' A c xs := by
  refine ⟨h.1, ?_⟩
  rcases h.2 with h1 | ⟨g', cap, cur, hv, hb, hr⟩
  · exact .inl h1
  · exact .inr ⟨g', cap, cur, hv, Nat.le_trans hl hb, hr⟩

set_option maxHeartbeats 2000000 in
theorem l2Row_c (A : Option Addr) (n c m i : Nat) (xs : List Int) (w : World) (hr : Rd w A n xs) (hi : i < n) (_ : n ≤ 6) (hm : m ≤ 6) (hx : ∃ r : Nat, xs[i]?.getD 0 = (r : Int) ∧ r < 64) :
    Calls Tryz.prog 152 #[.agg #[.int .i64 m, .slice A n c], .int .i64 i] w fun e w' => ∃ s : Nat, e = .returned (.int .i64 s) ∧ s ≤ 6 ∧ Below w.heap.size w w' := by
  obtain ⟨r, hxr, hr64⟩ := hx
  have hR2 := hr.alloc (.cells #[.int .i64 m, .slice A n c] 25)
  obtain ⟨b, off, rfl, hb, hc⟩ := hR2.at_ hi
  rw [hxr] at hc
  clear hR2
  have hxr' := Lib.hid hxr; clear hxr
  go_enter Tryz.func152, Tryz.ntmps152
  have hK := Blk.new w 25 #[.int .i64 m, .slice (some ⟨b, off, none⟩) n c]
  go_wp2
  go_loop [5, 6] (fun s j => ∃ k t : Nat, k ≤ m ∧ t ≤ k ∧ j = .int .i64 k ∧ s = .int .i64 t) (fun _ j => m - (intOf j).toNat)
  case atStart => exact ⟨0, 0, by omega, by omega, rfl, rfl⟩
  case round =>
    obtain ⟨k, t, hk, htk, rfl, rfl⟩ := hrel
    have c0 := hK.cell 0
    have c1 := hK.cell 1
    by_cases hlt : k < m
    · go_wp2_with fail
      refine (l1Bit_c r k _ (by omega) (by omega)).mono ?_
      rintro e w' ⟨rfl, rfl⟩
      have h2 : r / 2 ^ k % 2 < 2 := Nat.mod_lt _ (by omega)
      generalize r / 2 ^ k % 2 = v at h2 ⊢
      go_wp2
      go_round
      case rel => exact ⟨k + 1, t + v, by omega, by omega, by go_num, by go_num⟩
      case measure => simp [intOf]; omega
    · obtain rfl : k = m := by omega
      go_wp2
      go_ret
      exact ⟨t, rfl, by omega, by (repeat (first | exact Below.refl _ _ | assumption | refine lo_alloc ?_ _ | refine lo_set ?_ (by simp; try omega) _ | refine Below.drew ?_ | refine below_drewN ?_ _ | refine lo_trans ?_ (by assumption) | refine lo_wr ?_ (by assumption) (by omega)))⟩

set_option maxHeartbeats 4000000 in
theorem spec_RowSums_c (A : Option Addr) (h c m : Nat) (f : Nat → Nat → Bool) (w : World) (hr : Rd w A h (img f h m)) (h1 : 1 ≤ h) (h6 : h ≤ 6) (m1 : 1 ≤ m) (m6 : m ≤ 6) :
    Calls Tryz.prog 130 #[.agg #[.int .i64 m, .slice A h c]] w fun e w' => ∃ (R : Option Addr) (d : Nat) (ys : List Int), e = .returned (.slice R h d) ∧ Buf w' w.heap.size R d ys ∧ ys.length = h ∧ Hid (∀ y ∈ ys, 0 ≤ y ∧ y ≤ 6) ∧ Below w.heap.size w w' := by
  go_enter Tryz.func130, Tryz.ntmps130
  have hK0 : Blk ((w.alloc (.cells #[.int .i64 m, .slice A h c] 25)).alloc (.cells #[] 3)) w.heap.size 25 #[.int .i64 m, .slice A h c] := (Blk.new w 25 #[.int .i64 m, .slice A h c]).alloc _
  have hB0 : Buf ((w.alloc (.cells #[.int .i64 m, .slice A h c] 25)).alloc (.cells #[] 3)) (w.heap.size + 1) (some ⟨w.heap.size + 1, 0, none⟩) 0 [] :=
    ⟨rfl, .inr ⟨w.heap.size + 1, 0, #[], rfl, Nat.le_refl _, heap_at2 w _ 3 #[], Nat.le_refl _, Nat.zero_le _, rfl, rfl⟩⟩
  have hL0 : Below w.heap.size w ((w.alloc (.cells #[.int .i64 m, .slice A h c] 25)).alloc (.cells #[] 3)) := lo_alloc (lo_alloc (Below.refl _ _) _) _
  go_wp2
  go_loopw [3, 4] (fun v i wr => ∃ (k : Nat) (R : Option Addr) (d : Nat) (ys : List Int), k ≤ h ∧ i = .int .i64 k ∧ v = .slice R k d ∧ ys.length = k ∧ Buf wr (w.heap.size + 1) R d ys ∧
      Hid (∀ y ∈ ys, 0 ≤ y ∧ y ≤ 6) ∧ Below w.heap.size w wr ∧ Blk wr w.heap.size 25 #[.int .i64 m, .slice A h c]) (fun _ i _ => h - (intOf i).toNat)
  case atStart => exact ⟨0, _, 0, [], Nat.zero_le _, rfl, rfl, rfl, hB0, Lib.hid (by simp), hL0, hK0⟩
  case round =>
    clear hB0 hL0 hK0
    obtain ⟨k, R, d, ys, hk, rfl, rfl, hyl, hB, hY, hL, hK⟩ := hrel
    have hyl' := Lib.hid hyl; clear hyl
    have hzr := hK.lt
    have c0 := hK.cell 0
    have c1 := hK.cell 1
    by_cases hlt : k < h
    · go_wp2_with fail
      refine (spec_ImageValid_c _ _ _ _ (img f h m) _ (hr.next hL) (by omega)).mono ?_
      rw [okB_img h1 h6 m1 m6]
      rintro e w1 ⟨rfl, hb1⟩
      have hK1 := hK.next hb1
      clear c0 c1
      have c0 := hK1.cell 0
      have c1 := hK1.cell 1
      have hs1 := hb1.size
      go_wp2_with fail
      refine (l2Row_c _ _ _ _ _ (img f h m) _ (hr.next (lo_trans hL hb1)) hlt h6 m6 (img_row m6 hlt)).mono ?_
      rintro e w2 ⟨s, rfl, hs6, hb2⟩
      have hs2 := hb2.size
      have hbB : Below wr.heap.size wr w2 := lo_trans hb1 hb2
      have hB3 : Buf (w2.alloc (.cells #[.int .i64 (s : Int)] 3)) (w.heap.size + 1) R d ys := (hB.next hbB).next (by (repeat (first | exact Below.refl _ _ | assumption | refine lo_alloc ?_ _ | refine lo_set ?_ (by simp; try omega) _ | refine Below.drew ?_ | refine below_drewN ?_ _ | refine lo_trans ?_ (by assumption) | refine lo_wr ?_ (by assumption) (by omega))))
      have hK3 : Blk (w2.alloc (.cells #[.int .i64 (s : Int)] 3)) w.heap.size _ _ := (hK1.next hb2).alloc (.cells #[.int .i64 (s : Int)] 3)
      have hL3 : Below w.heap.size w (w2.alloc (.cells #[.int .i64 (s : Int)] 3)) := lo_alloc (lo_trans hL hbB) _
      have hrd : Rd (w2.alloc (.cells (ints [(s : Int)]) 3)) (some ⟨w2.heap.size, 0, none⟩) 1 [(s : Int)] := Rd.of_blk (Blk.new _ _ _)
      clear hb1 hb2 hbB c0 c1 hK hK1 hB hL
      go_wp2_with (at_builtin; refine (wpl_append rfl _ _ rfl (w.heap.size + 1) R d k ys rfl hyl'.out.symm hB3 _ 1 1 [(s : Int)] rfl hrd (by omega) (by omega) (by simp; omega) ?_); intro g c' w4 hB4 hg4 hat)
      have hBk := rowA_ge hB3
      go_roundw
      case rel =>
        refine ⟨k + 1, _, c', _, by omega, by go_num, rfl, by simp [hyl'.out], hB4, Lib.hid ?_, hL3.grown hg4 hL3.size (fun g hg => by have := hBk g hg; omega), hK3.grown hg4 (fun e => by have := hBk _ e.symm; omega)⟩
        intro y hy
        rcases List.mem_append.1 hy with h | h
        · exact hY.out y h
        · simp at h; omega
      case measure => simp [intOf]; omega
    · obtain rfl : k = h := by omega
      go_wp2
      go_ret
      exact ⟨_, _, ys, rfl, hB.mono (by omega), hyl'.out, hY, hL⟩

set_option maxHeartbeats 4000000 in
theorem spec_ColSums_c (A : Option Addr) (h c m : Nat) (f : Nat → Nat → Bool) (w : World) (hr : Rd w A h (img f h m)) (h1 : 1 ≤ h) (h6 : h ≤ 6) (m1 : 1 ≤ m) (m6 : m ≤ 6) :
    Calls Tryz.prog 131 #[.agg #[.int .i64 m, .slice A h c]] w fun e w' => ∃ (R : Option Addr) (d : Nat) (ys : List Int), e = .returned (.slice R m d) ∧ Buf w' w.heap.size R d ys ∧ ys.length = m ∧ Hid (∀ y ∈ ys, 0 ≤ y ∧ y ≤ 6) ∧ Below w.heap.size w w' := by
  go_enter Tryz.func131, Tryz.ntmps131
  have hK0 : Blk ((w.alloc (.cells #[.int .i64 m, .slice A h c] 25)).alloc (.cells #[] 3)) w.heap.size 25 #[.int .i64 m, .slice A h c] := (Blk.new w 25 #[.int .i64 m, .slice A h c]).alloc _
  have hB0 : Buf ((w.alloc (.cells #[.int .i64 m, .slice A h c] 25)).alloc (.cells #[] 3)) (w.heap.size + 1) (some ⟨w.heap.size + 1, 0, none⟩) 0 [] :=
    ⟨rfl, .inr ⟨w.heap.size + 1, 0, #[], rfl, Nat.le_refl _, heap_at2 w _ 3 #[], Nat.le_refl _, Nat.zero_le _, rfl, rfl⟩⟩
  have hL0 : Below w.heap.size w ((w.alloc (.cells #[.int .i64 m, .slice A h c] 25)).alloc (.cells #[] 3)) := lo_alloc (lo_alloc (Below.refl _ _) _) _
  have c0 := hK0.cell 0
  have c1 := hK0.cell 1
  go_wp2_with fail
  refine (spec_ImageValid_c _ _ _ _ (img f h m) _ (hr.next hL0) (by omega)).mono ?_
  rw [okB_img h1 h6 m1 m6]
  rintro e w1 ⟨rfl, hb1⟩
  have hK1 := hK0.next hb1
  have hB1 := hB0.next hb1
  have hL1 := lo_trans hL0 hb1
  clear hK0 hB0 hL0 c0 c1 hb1
  go_wp2
  go_loopw [3, 4] (fun v i wr => ∃ (k : Nat) (R : Option Addr) (d : Nat) (ys : List Int), k ≤ m ∧ i = .int .i64 k ∧ v = .slice R k d ∧ ys.length = k ∧ Buf wr (w.heap.size + 1) R d ys ∧
      Hid (∀ y ∈ ys, 0 ≤ y ∧ y ≤ 6) ∧ Below w.heap.size w wr ∧ Blk wr w.heap.size 25 #[.int .i64 m, .slice A h c]) (fun _ i _ => m - (intOf i).toNat)
  case atStart => exact ⟨0, _, 0, [], Nat.zero_le _, rfl, rfl, rfl, hB1, Lib.hid (by simp), hL1, hK1⟩
  case round =>
    clear hB1 hL1 hK1
    obtain ⟨k, R, d, ys, hk, rfl, rfl, hyl, hB, hY, hL, hK⟩ := hrel
    have hyl' := Lib.hid hyl; clear hyl
    have hzr := hK.lt
    have c0 := hK.cell 0
    have c1 := hK.cell 1
    have hRr := hr.next hL
    by_cases hlt : k < m
    · go_wp2
      go_loop [5, 6] (fun s i => ∃ i' t : Nat, i' ≤ h ∧ t ≤ i' ∧ i = .int .i64 i' ∧ s = .int .i64 t) (fun _ i => h - (intOf i).toNat)
      case atStart => exact ⟨0, 0, by omega, by omega, rfl, rfl⟩
      case round =>
        obtain ⟨i, t, hi, hti, rfl, rfl⟩ := hrel
        by_cases hlt2 : i < h
        · obtain ⟨b, off, rfl, hb, hc⟩ := hRr.at_ hlt2
          obtain ⟨r, hxr, hr64⟩ := img_row (f := f) (m := m) m6 hlt2
          rw [hxr] at hc
          have hxr' := Lib.hid hxr; clear hxr
          go_wp2_with fail
          refine (l1Bit_c r k _ (by omega) (by omega)).mono ?_
          rintro e w' ⟨rfl, rfl⟩
          have h2 : r / 2 ^ k % 2 < 2 := Nat.mod_lt _ (by omega)
          generalize r / 2 ^ k % 2 = v at h2 ⊢
          go_wp2
          go_round
          case rel => exact ⟨i + 1, t + v, by omega, by omega, by go_num, by go_num⟩
          case measure => simp [intOf]; omega
        · obtain rfl : i = h := by omega
          have hB3 : Buf (wr.alloc (.cells #[.int .i64 (t : Int)] 3)) (w.heap.size + 1) R d ys := hB.next (by (repeat (first | exact Below.refl _ _ | assumption | refine lo_alloc ?_ _ | refine lo_set ?_ (by simp; try omega) _ | refine Below.drew ?_ | refine below_drewN ?_ _ | refine lo_trans ?_ (by assumption) | refine lo_wr ?_ (by assumption) (by omega))))
          have hK3 : Blk (wr.alloc (.cells #[.int .i64 (t : Int)] 3)) w.heap.size _ _ := hK.alloc (.cells #[.int .i64 (t : Int)] 3)
          have hL3 : Below w.heap.size w (wr.alloc (.cells #[.int .i64 (t : Int)] 3)) := lo_alloc hL _
          have hrd : Rd (wr.alloc (.cells (ints [(t : Int)]) 3)) (some ⟨wr.heap.size, 0, none⟩) 1 [(t : Int)] := Rd.of_blk (Blk.new _ _ _)
          clear hK hB hL hRr
          go_wp2_with (at_builtin; refine (wpl_append rfl _ _ rfl (w.heap.size + 1) R d k ys rfl hyl'.out.symm hB3 _ 1 1 [(t : Int)] rfl hrd (by omega) (by omega) (by simp; omega) ?_); intro g c' w4 hB4 hg4 hat)
          have hBk := rowA_ge hB3
          go_roundw
          case rel =>
            refine ⟨k + 1, _, c', _, by omega, by go_num, rfl, by simp [hyl'.out], hB4, Lib.hid ?_, hL3.grown hg4 hL3.size (fun g hg => by have := hBk g hg; omega), hK3.grown hg4 (fun e => by have := hBk _ e.symm; omega)⟩
            intro y hy
            rcases List.mem_append.1 hy with h | h
            · exact hY.out y h
            · simp at h; omega
          case measure => simp [intOf]; omega
    · obtain rfl : k = m := by omega
      go_wp2
      go_ret
      exact ⟨_, _, ys, rfl, hB.mono (by omega), hyl'.out, hY, hL⟩
end Go.Proofs.YtpeiolimdglmhaaGreatDoor

-- Walks: drawn sums, the reference's l91Sums, l91SumsWrong, l93Any.
namespace Go.Proofs.YtpeiolimdglmhaaGreatDoor
open Go.RowKit
set_option maxRecDepth 100000

theorem Buf.at_ {w : World} {base c k n : Nat} {A : Option Addr} {xs : List Int} (h : Buf w base A c xs) (hn : xs.length = n) (hk : k < n) : ∃ g, A = some ⟨g, 0, none⟩ ∧ base ≤ g ∧ g < w.heap.size ∧ w.cell? ⟨g, k, none⟩ = some (.int .i64 (xs[k]?.getD 0)) ∧ w.frozen? ⟨g, k, none⟩ = false := by
  have hO := h.own
  rw [hn] at hO
  obtain ⟨g, h1, h2, h3, h4, h5, _⟩ := hO.at_ hk
  exact ⟨g, h1, h2, h3, h4, h5⟩
theorem Buf.kept_lo {w w' : World} {base c : Nat} {A : Option Addr} {xs : List Int} (h : Buf w base A c xs) {row : Option Nat} (hg : w.grownBy w' row) (hr : ∀ g, row = some g → g < base) : Buf w' base A c xs :=
  h.kept hg (fun g e e' => by have := hr g e'; have := h.lt g e; omega)

theorem Buf.le {w : World} {base c n : Nat} {A : Option Addr} {xs : List Int} (h : Buf w base A c xs) (hn : xs.length = n) : n ≤ c := by
  subst hn
  rcases h.2 with ⟨hv, _⟩ | ⟨g', cap, cur, hv, hb, hh, hn, _⟩
  · injection hv with _ h2 h3; omega
  · injection hv with _ h2 h3; omega

def DrawnSums (w : World) (lo b p k : Nat) (e : Ending) (w' : World) : Prop :=
  ∃ (R : Option Addr) (n c : Nat) (Q : Option Addr) (m d q : Nat) (xs ys : List Int), e = .returned (.tuple #[.slice R n c, .slice Q m d]) ∧ 1 ≤ n ∧ n ≤ 6 ∧ 1 ≤ m ∧ m ≤ 6 ∧ xs.length = n ∧ ys.length = m ∧
    Buf w' w.heap.size R c xs ∧ Buf w' w.heap.size Q d ys ∧ Hid (∀ g, R = some ⟨g, 0, none⟩ → Q ≠ some ⟨g, 0, none⟩) ∧ w.grownBy w' (some b) ∧ Rdr w' lo b q ∧ q ≤ p + k

set_option maxHeartbeats 4000000 in
theorem l91Sums_c (lo b p : Nat) (w : World) (h : Rdr w lo b p) (hp : p ≤ 500000) :
    Calls Tryz.prog 98 #[.pointer (some ⟨b, 0, none⟩), .int .i64 36] w (DrawnSums w lo b p 70) := by
  have hbz := h.lt
  go_enter Tryz.func98, Tryz.ntmps98
  go_wp2_with fail
  refine (l91Image_c lo b p 36 _ h (by omega) (by omega) (by omega)).mono ?_
  rintro e w1 ⟨a, m, g, q, f, rfl, ha1, ha2, hm1, hm2, hg, hk1, hg1, hr1, hq⟩
  have hgw := hk1.lt
  have hz1 := hg1.size
  obtain ⟨wz, hwz⟩ : ∃ wz, wz = w1.alloc (.cells #[.int .i64 m, .slice (some ⟨g, 0, none⟩) a a] 25) := ⟨_, rfl⟩
  have hO : Blk wz w1.heap.size 25 #[.int .i64 m, .slice (some ⟨g, 0, none⟩) a a] := by rw [hwz]; exact Blk.new _ _ _
  have hI : Rd wz (some ⟨g, 0, none⟩) a (img f a m) := by rw [hwz]; exact (Own.of_blk (hk1.alloc _) hg (img_len _ _ _)).rd
  have hG : w.grownBy wz (some b) := by rw [hwz]; exact grown_trans hg1 (grown_alloc _ _)
  have hR : Rdr wz lo b q := by rw [hwz]; exact hr1.next (by (repeat (first | exact Below.refl _ _ | assumption | refine lo_alloc ?_ _ | refine lo_set ?_ (by simp; try omega) _ | refine Below.drew ?_ | refine below_drewN ?_ _ | refine lo_trans ?_ (by assumption) | refine lo_wr ?_ (by assumption) (by omega))))
  have hzz : wz.heap.size = w1.heap.size + 1 := by rw [hwz]; simp
  clear hk1 hg1 hr1
  go_wp2_with fail
  rw [← hwz]
  have hwz' := Lib.hid hwz; clear hwz
  have o0 := hO.cell 0
  have o1 := hO.cell 1
  go_wp2_with fail
  refine (spec_RowSums_c _ _ _ _ f _ hI ha1 ha2 hm1 hm2).mono ?_
  rintro e w2 ⟨R, c, xs, rfl, hB2, hxl, hX, hb2⟩
  have hO2 := hO.next hb2
  have hz2 := hb2.size
  clear o0 o1
  have o0 := hO2.cell 0
  have o1 := hO2.cell 1
  have hxl' := Lib.hid hxl; clear hxl
  go_wp2_with fail
  refine (spec_ColSums_c _ _ _ _ f _ (hI.next hb2) ha1 ha2 hm1 hm2).mono ?_
  rintro e w3 ⟨Q, d, ys, rfl, hQ3, hyl, hY, hb3⟩
  have hyl' := Lib.hid hyl; clear hyl
  have hz3 := hb3.size
  have hB3 := hB2.next hb3
  have hD : Hid (∀ g, R = some ⟨g, 0, none⟩ → Q ≠ some ⟨g, 0, none⟩) := Lib.hid (fun g e e' => by have := hB2.lt g e; have := hQ3.lt g e'; omega)
  have hG3 : w.grownBy w3 (some b) := grown_trans (grown_trans hG (grown_of_below hb2 _)) (grown_of_below hb3 _)
  have hR3 := (hR.next hb2).next hb3
  have hB3' := hB3.mono (show w.heap.size ≤ wz.heap.size by omega)
  have hQ3' := hQ3.mono (show w.heap.size ≤ w2.heap.size by omega)
  clear hO hO2 hI hb2 hb3 hB2 hQ3 hB3 hG hR o0 o1
  go_wp2_with fail
  refine (pick_c lo b q _ _ hR3 (by omega)).mono ?_
  rintro e w4 ⟨x, rfl, _, hg4, hr4⟩
  have hB4 := hB3'.kept_lo hg4 (by rintro _ ⟨⟩; exact hbz)
  have hQ4 := hQ3'.kept_lo hg4 (by rintro _ ⟨⟩; exact hbz)
  have hG4 := grown_trans hG3 hg4
  have hz4 := hg4.size
  clear hB3' hQ3' hG3 hg4 hR3
  by_cases s0 : x = 0
  · have s0' : ((x : Int) == 0) = true := by simp; omega
    clear s0
    go_wp2_with fail
    refine (pick_c lo b _ _ _ hr4 (by omega)).mono ?_
    rintro e w5 ⟨x5, rfl, hx5, hg5, hr5⟩
    have hy5 := hx5 (by omega)
    go_wp2_with fail
    refine (pick_c lo b _ _ _ hr5 (by omega)).mono ?_
    rintro e w6 ⟨x6, rfl, hx6, hg6, hr6⟩
    have hy6 := hx6 (by omega)
    clear hx5 hx6
    have hB6 := (hB4.kept_lo hg5 (by rintro _ ⟨⟩; exact hbz)).kept_lo hg6 (by rintro _ ⟨⟩; exact hbz)
    have hQ6 := (hQ4.kept_lo hg5 (by rintro _ ⟨⟩; exact hbz)).kept_lo hg6 (by rintro _ ⟨⟩; exact hbz)
    have hG6 := grown_trans (grown_trans hG4 hg5) hg6
    obtain ⟨gA, rfl, lA, zA, cA, fA⟩ := hB6.at_ (k := x5) hxl'.out (by omega)
    have hF := hB6.set (k := x5) (x6 : Int)
    have hQF := hQ6.kept (grown_set (w := w6) (g := gA) (k := x5) (.int .i64 (x6 : Int))) (fun g e e' => by injection e' with e'; subst e'; exact hD.out _ rfl e)
    have hGF := grown_over hG6 (grown_set (w := w6) (g := gA) (k := x5) (.int .i64 (x6 : Int))) (by rintro _ ⟨⟩; omega)
    have hRF := hr6.grown (grown_set (w := w6) (g := gA) (k := x5) (.int .i64 (x6 : Int))) (by omega)
    clear hB4 hQ4 hG4 hg5 hg6 hr4 hr5 hr6 hB6 hQ6 hG6
    go_wp2
    go_ret2
    exact ⟨_, _, _, _, _, _, _, _, _, rfl, ha1, ha2, hm1, hm2, by rw [List.length_set]; exact hxl'.out, hyl'.out, hF, hQF, hD, hGF, hRF, by omega⟩
  have s0' : ((x : Int) == 0) = false := by simp; omega
  by_cases s1 : x = 1
  · have s1' : ((x : Int) == 1) = true := by simp; omega
    clear s0 s1
    go_wp2_with fail
    refine (pick_c lo b _ _ _ hr4 (by omega)).mono ?_
    rintro e w5 ⟨x5, rfl, hx5, hg5, hr5⟩
    have hy5 := hx5 (by omega)
    go_wp2_with fail
    refine (pick_c lo b _ _ _ hr5 (by omega)).mono ?_
    rintro e w6 ⟨x6, rfl, hx6, hg6, hr6⟩
    have hy6 := hx6 (by omega)
    clear hx5 hx6
    have hB6 := (hB4.kept_lo hg5 (by rintro _ ⟨⟩; exact hbz)).kept_lo hg6 (by rintro _ ⟨⟩; exact hbz)
    have hQ6 := (hQ4.kept_lo hg5 (by rintro _ ⟨⟩; exact hbz)).kept_lo hg6 (by rintro _ ⟨⟩; exact hbz)
    have hG6 := grown_trans (grown_trans hG4 hg5) hg6
    obtain ⟨gA, rfl, lA, zA, cA, fA⟩ := hQ6.at_ (k := x5) hyl'.out (by omega)
    have hv5 := hY.out _ (mem_at (show x5 < ys.length by rw [hyl'.out]; omega))
    have hvS : ∀ j, j < m → -1 ≤ (ys.set x5 (ys[x5]?.getD 0 + 1))[j]?.getD 0 ∧ (ys.set x5 (ys[x5]?.getD 0 + 1))[j]?.getD 0 ≤ 7 := by
      intro j hj
      have hm' := mem_at (show j < (ys.set x5 (ys[x5]?.getD 0 + 1)).length by rw [List.length_set, hyl'.out]; exact hj)
      rcases List.mem_or_eq_of_mem_set hm' with h | h
      · have := hY.out _ h; omega
      · omega
    have hv6 := hvS x6 (by omega)
    clear hvS
    have hQ7 := hQ6.set (k := x5) (ys[x5]?.getD 0 + 1)
    generalize ys[x5]?.getD 0 = v5 at cA hv5 hv6 hQ7 ⊢
    have hB7 := hB6.kept (grown_set (w := w6) (g := gA) (k := x5) (.int .i64 (v5 + 1))) (fun g e e' => by injection e' with e'; subst e'; exact hD.out _ e rfl)
    have hG7 := grown_over hG6 (grown_set (w := w6) (g := gA) (k := x5) (.int .i64 (v5 + 1))) (by rintro _ ⟨⟩; omega)
    have hR7 := hr6.grown (grown_set (w := w6) (g := gA) (k := x5) (.int .i64 (v5 + 1))) (by omega)
    obtain ⟨_, e1, _, _, cA2, fA2⟩ := hQ7.at_ (k := x6) (n := m) (by rw [List.length_set]; exact hyl'.out) (by omega)
    cases e1
    have hQ8 := hQ7.set (k := x6) ((ys.set x5 (v5 + 1))[x6]?.getD 0 - 1)
    have hl8 := Lib.hid (show ((ys.set x5 (v5 + 1)).set x6 ((ys.set x5 (v5 + 1))[x6]?.getD 0 - 1)).length = m by rw [List.length_set, List.length_set]; exact hyl'.out)
    generalize (ys.set x5 (v5 + 1))[x6]?.getD 0 = v6 at cA2 hv6 hQ8 hl8 ⊢
    have hB8 := hB7.kept (grown_set (g := gA) (k := x6) (.int .i64 (v6 - 1))) (fun g e e' => by injection e' with e'; subst e'; exact hD.out _ e rfl)
    have hG8 := grown_over hG7 (grown_set (g := gA) (k := x6) (.int .i64 (v6 - 1))) (by rintro _ ⟨⟩; omega)
    have hR8 := hR7.grown (grown_set (g := gA) (k := x6) (.int .i64 (v6 - 1))) (by omega)
    clear hB4 hQ4 hG4 hg5 hg6 hr4 hr5 hr6 hB6 hQ6 hG6 hB7 hG7 hR7 hQ7
    go_wp2
    go_ret2
    exact ⟨_, _, _, _, _, _, _, _, _, rfl, ha1, ha2, hm1, hm2, hxl'.out, hl8.out, hB8, hQ8, hD, hG8, hR8, by omega⟩
  have s1' : ((x : Int) == 1) = false := by simp; omega
  by_cases s2 : x = 2
  · have s2' : ((x : Int) == 2) = true := by simp; omega
    clear s0 s1 s2
    go_wp2_with fail
    refine (pick_c lo b _ _ _ hr4 (by omega)).mono ?_
    rintro e w5 ⟨x5, rfl, hx5, hg5, hr5⟩
    have hy5 := hx5 (by omega)
    clear hx5
    have hB6 := hB4.kept_lo hg5 (by rintro _ ⟨⟩; exact hbz)
    have hQ6 := hQ4.kept_lo hg5 (by rintro _ ⟨⟩; exact hbz)
    have hG6 := grown_trans hG4 hg5
    obtain ⟨gA, rfl, lA, zA, cA, fA⟩ := hQ6.at_ (k := 0) hyl'.out (by omega)
    have hF := hQ6.set (k := 0) ((a : Int) + (x5 : Int))
    have hBF := hB6.kept (grown_set (w := w5) (g := gA) (k := 0) (.int .i64 ((a : Int) + (x5 : Int)))) (fun g e e' => by injection e' with e'; subst e'; exact hD.out _ e rfl)
    have hGF := grown_over hG6 (grown_set (w := w5) (g := gA) (k := 0) (.int .i64 ((a : Int) + (x5 : Int)))) (by rintro _ ⟨⟩; omega)
    have hRF := hr5.grown (grown_set (w := w5) (g := gA) (k := 0) (.int .i64 ((a : Int) + (x5 : Int)))) (by omega)
    clear hB4 hQ4 hG4 hg5 hr4 hr5 hB6 hQ6 hG6
    go_wp2
    go_ret2
    exact ⟨_, _, _, _, _, _, _, _, _, rfl, ha1, ha2, hm1, hm2, hxl'.out, by rw [List.length_set]; exact hyl'.out, hBF, hF, hD, hGF, hRF, by omega⟩
  · have s2' : ((x : Int) == 2) = false := by simp; omega
    clear s0 s1 s2
    go_wp2
    go_ret2
    exact ⟨_, _, _, _, _, _, _, _, _, rfl, ha1, ha2, hm1, hm2, hxl'.out, hyl'.out, hB4, hQ4, hD, hG4, hr4, by omega⟩
end Go.Proofs.YtpeiolimdglmhaaGreatDoor

-- Walks: drawn sums that may be wrong; sums at random.
namespace Go.Proofs.YtpeiolimdglmhaaGreatDoor
open Go.RowKit
set_option maxRecDepth 100000

def DrawnList (w : World) (lo b p k : Nat) (e : Ending) (w' : World) : Prop :=
  ∃ (R : Option Addr) (n c : Nat) (Q : Option Addr) (m d q : Nat) (xs ys : List Int), e = .returned (.tuple #[.slice R n c, .slice Q m d]) ∧ n ≤ 12 ∧ m ≤ 12 ∧ n ≤ c ∧ m ≤ d ∧
    Own w' w.heap.size R n xs ∧ Own w' w.heap.size Q m ys ∧ w.grownBy w' (some b) ∧ Rdr w' lo b q ∧ q ≤ p + k

set_option maxHeartbeats 4000000 in
theorem l91SumsWrong_c (lo b p : Nat) (w : World) (h : Rdr w lo b p) (hp : p ≤ 400000) :
    Calls Tryz.prog 54 #[.pointer (some ⟨b, 0, none⟩), .int .i64 36] w (DrawnList w lo b p 71) := by
  have hbz := h.lt
  go_enter Tryz.func54, Tryz.ntmps54
  go_wp2_with fail
  refine (l91Sums_c lo b p _ h (by omega)).mono ?_
  rintro e w1 ⟨R, n, c, Q, m, d, q, xs, ys, rfl, hn1, hn2, hm1, hm2, hxl, hyl, hB, hQ, hD, hG, hR, hq⟩
  have hxl' := Lib.hid hxl; clear hxl
  have hyl' := Lib.hid hyl; clear hyl
  have hz1 := hG.size
  have hnc := hB.le hxl'.out
  have hmd := hQ.le hyl'.out
  go_wp2_with fail
  refine (pick_c lo b q _ _ hR (by omega)).mono ?_
  rintro e w2 ⟨x, rfl, _, hg2, hr2⟩
  have hB2 := hB.kept_lo hg2 (by rintro _ ⟨⟩; exact hbz)
  have hQ2 := hQ.kept_lo hg2 (by rintro _ ⟨⟩; exact hbz)
  have hG2 := grown_trans hG hg2
  have hz2 := hg2.size
  clear hB hQ hG hR hg2
  by_cases s0 : x = 0
  · have s0' : ((x : Int) == 0) = true := by simp; omega
    clear s0
    obtain ⟨gA, rfl, lA, zA, cA, fA⟩ := hB2.at_ (k := 0) hxl'.out (by omega)
    have hF := (hB2.set (k := 0) (-1)).own
    rw [List.length_set, hxl'.out] at hF
    have hQF := (hQ2.kept (grown_set (w := w2) (g := gA) (k := 0) (.int .i64 (-1))) (fun g e e' => by injection e' with e'; subst e'; exact hD.out _ rfl e)).own
    rw [hyl'.out] at hQF
    have hGF := grown_over hG2 (grown_set (w := w2) (g := gA) (k := 0) (.int .i64 (-1))) (by rintro _ ⟨⟩; omega)
    have hRF := hr2.grown (grown_set (w := w2) (g := gA) (k := 0) (.int .i64 (-1))) (by omega)
    clear hB2 hQ2 hG2 hr2
    go_wp2
    go_ret2
    exact ⟨_, _, _, _, _, _, _, _, _, rfl, by omega, by omega, hnc, hmd, hF, hQF, hGF, hRF, by omega⟩
  have s0' : ((x : Int) == 0) = false := by simp; omega
  have hO := hB2.own
  rw [hxl'.out] at hO
  by_cases s1 : x = 1
  · have s1' : ((x : Int) == 1) = true := by simp; omega
    clear s0 s1
    have hQo := hQ2.own
    rw [hyl'.out] at hQo
    have hn2' := (Below.refl w2.heap.size w2).alloc (Nat.le_refl _) (.cells #[] 3)
    go_wp2
    go_ret2
    exact ⟨_, _, _, _, _, _, _, [], _, rfl, by omega, by omega, Nat.le_refl _, hmd, Own.nil_ _ _ _, hQo.next hn2', grown_trans hG2 (grown_alloc _ _), hr2.next hn2', by omega⟩
  have s1' : ((x : Int) == 1) = false := by simp; omega
  by_cases s2 : x = 2
  · have s2' : ((x : Int) == 2) = true := by simp; omega
    clear s0 s1 s2
    have hn2' := (Below.refl w2.heap.size w2).alloc (Nat.le_refl _) (.cells #[.int .i64 0, .int .i64 0, .int .i64 0, .int .i64 0, .int .i64 0, .int .i64 0] 3)
    have hQ3 := hQ2.next hn2'
    have hO3 := hO.next hn2'
    have hR3 := hr2.next hn2'
    have hG3 := grown_trans hG2 (grown_alloc (.cells #[.int .i64 0, .int .i64 0, .int .i64 0, .int .i64 0, .int .i64 0, .int .i64 0] 3) (some b))
    have hrd : Rd (w2.alloc (.cells (ints [0, 0, 0, 0, 0, 0]) 3)) (some ⟨w2.heap.size, 0, none⟩) 6 [0, 0, 0, 0, 0, 0] := Rd.of_blk (Blk.new _ _ _)
    clear hB2 hQ2 hO hr2 hG2 hn2'
    go_wp2_with (at_builtin; refine (wpl_append rfl _ _ rfl w.heap.size Q d m ys rfl hyl'.out.symm hQ3 _ 6 6 [0, 0, 0, 0, 0, 0] rfl hrd (by omega) (by omega) (by simp; omega) ?_); intro g c' w4 hB4 hg4 hat)
    have hBk := rowA_ge hQ3
    have hn4 := rowA_at hQ3
    have hO4 := hO3.grown hg4 (fun g e e' => hD.out g e (hn4 g e'))
    have hmd4 := hB4.le (n := m + 6) (by rw [List.length_append, hyl'.out]; rfl)
    have hQ4 := hB4.own
    rw [List.length_append, hyl'.out] at hQ4
    have hG4 := grown_over hG3 hg4 (fun g hg => hBk g hg)
    have hR4 := hR3.grownA hg4 (fun g hg => by have := hBk g hg; omega)
    clear hO3 hR3 hG3 hQ3 hB4 hrd
    go_wp2
    go_ret2
    exact ⟨_, _, _, _, _, _, _, _, _, rfl, by omega, by omega, hnc, hmd4, hO4, hQ4, hG4, hR4, by omega⟩
  · have s2' : ((x : Int) == 2) = false := by simp; omega
    clear s0 s1 s2
    have hQo := hQ2.own
    rw [hyl'.out] at hQo
    go_wp2
    go_ret2
    exact ⟨_, _, _, _, _, _, _, _, _, rfl, by omega, by omega, hnc, hmd, hO, hQo, hG2, hr2, by omega⟩

def DrawnTwoS (w : World) (e : Ending) (w' : World) : Prop :=
  ∃ (R : Option Addr) (n c : Nat) (Q : Option Addr) (m d : Nat) (xs ys : List Int), e = .returned (.tuple #[.slice R n c, .slice Q m d]) ∧ n ≤ 12 ∧ m ≤ 12 ∧ n ≤ c ∧ m ≤ d ∧
    Own w' w.heap.size R n xs ∧ Own w' w.heap.size Q m ys ∧ Below w.heap.size w w'
def DrawnThree (w : World) (e : Ending) (w' : World) : Prop :=
  ∃ (R : Option Addr) (n c : Nat) (Q : Option Addr) (m d : Nat) (xs ys : List Int) (t : Int), e = .returned (.tuple #[.slice R n c, .slice Q m d, .int .i64 t]) ∧ n ≤ 12 ∧ m ≤ 12 ∧ n ≤ c ∧ m ≤ d ∧
    Own w' w.heap.size R n xs ∧ Own w' w.heap.size Q m ys ∧ Below w.heap.size w w'

end Go.Proofs.YtpeiolimdglmhaaGreatDoor

-- Walks: SumsExcess, FillMost; sumOf.
namespace Go.Proofs.YtpeiolimdglmhaaGreatDoor
open Go.RowKit
set_option maxRecDepth 100000

/-- the greatest excess among the first k -/
def eM (r c : List Int) : Nat → Int
  | 0 => 0
  | k + 1 => max (eM r c k) (exc r c k)
theorem eM_ge (r c : List Int) : ∀ {k s : Nat}, s < k → exc r c s ≤ eM r c k
  | k + 1, s, h => by
    simp only [eM]
    rcases Nat.lt_or_ge s k with h1 | h1
    · have := eM_ge r c h1; omega
    · obtain rfl : s = k := by omega
      omega
theorem eM_zero (r c : List Int) : ∀ {k : Nat}, (∀ s, s < k → exc r c s ≤ 0) → eM r c k = 0
  | 0, _ => rfl
  | k + 1, h => by
    simp only [eM]
    rw [eM_zero r c (fun s hs => h s (by omega))]
    have := h k (by omega)
    omega
/-- SumsExcess -/
def sEx (r c : List Int) : Int := if sV r c = true then eM r c (r.length + 1) else -1
theorem sEx_some {r c : List Int} {t : Nat} (h : pOf r c = some t) : 0 < sEx r c := by
  obtain ⟨h1, _, h3, h4⟩ := pOk_iff.1 (pOf_some h).1
  rw [Int.toNat_natCast] at h4
  rw [sEx, if_pos h1]
  have := eM_ge r c (show t < r.length + 1 by omega)
  omega
theorem sEx_none {r c : List Int} (h : pOf r c = none) : sEx r c ≤ 0 := by
  rw [sEx]
  split
  · rename_i hv
    rw [eM_zero]
    · exact Int.le_refl _
    · intro s hs
      rcases Int.lt_or_le 0 (exc r c s) with h1 | h1
      · have := pOf_none h (s : Nat)
        rw [pOk_iff.2 ⟨hv, by omega, by omega, by rw [Int.toNat_natCast]; exact h1⟩] at this
        cases this
      · exact h1
  · omega

/-- the least among the first k -/
def fM (r c : List Int) : Nat → Int
  | 0 => r.sum
  | k + 1 => min (fM r c k) (r.sum - exc r c k)
theorem fM_le (r c : List Int) : ∀ {k s : Nat}, s < k → fM r c k ≤ r.sum - exc r c s
  | k + 1, s, h => by
    simp only [fM]
    rcases Nat.lt_or_ge s k with h1 | h1
    · have := fM_le r c h1; omega
    · obtain rfl : s = k := by omega
      omega
theorem exc_le_sum {r c : List Int} (hr : ∀ x ∈ r, 0 ≤ x) (hc : ∀ x ∈ c, 0 ≤ x) (t : Nat) : exc r c t ≤ r.sum := by
  have h1 := mSum_nonneg (c := c) (t := (t : Int)) hc (by omega)
  have h2 : tSum r t ≤ r.sum := by
    rw [tSum]
    have h3 : ((dsort r).take t).sum + ((dsort r).drop t).sum = r.sum := by
      rw [← List.sum_append, List.take_append_drop]
      exact perm_sum (dsort_perm r)
    have h4 : 0 ≤ ((dsort r).drop t).sum := by
      have : ∀ l : List Int, (∀ x ∈ l, 0 ≤ x) → 0 ≤ l.sum := by
        intro l
        induction l with
        | nil => intro _; simp
        | cons a l ih => intro h; have := ih (fun x hx => h x (by simp [hx])); have := h a (by simp); simp; omega
      exact this _ (fun x hx => hr x ((dsort_perm r).mem_iff.1 (List.mem_of_mem_drop hx)))
    omega
  rw [exc]
  omega
theorem fM_nonneg {r c : List Int} (hr : ∀ x ∈ r, 0 ≤ x) (hc : ∀ x ∈ c, 0 ≤ x) (h0 : 0 ≤ r.sum) : ∀ k, 0 ≤ fM r c k
  | 0 => h0
  | k + 1 => by
    simp only [fM]
    have := fM_nonneg hr hc h0 k
    have := exc_le_sum hr hc k
    omega
theorem exc_ge {r c : List Int} (hr : ∀ x ∈ r, 0 ≤ x ∧ x ≤ 6) (hc : ∀ x ∈ c, 0 ≤ x ∧ x ≤ 6) (hcl : c.length ≤ 6) (t : Nat) : -36 ≤ exc r c t := by
  have h1 := mSum_bd (cols := c) (t := (t : Int)) hc (by omega)
  have h2 := sum_bd (M := 6) (xs := (dsort r).take t) (fun x hx => hr x ((dsort_perm r).mem_iff.1 (List.mem_of_mem_take hx)))
  rw [exc, tSum]
  omega
/-- FillMost -/
def sFill (r c : List Int) : Int := if sV r c = true then fM r c (r.length + 1) else -1

end Go.Proofs.YtpeiolimdglmhaaGreatDoor
