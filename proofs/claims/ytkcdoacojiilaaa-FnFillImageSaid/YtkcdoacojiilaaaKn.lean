
/- Plain facts and walks that the law's proof uses; each says its own conditions. -/
import Derived.Test.YtkcdoacojiilaaaIns
import Derived.Test.YtkcdoacojiilaaaCn
import Derived.Test.YtkcdoacojiilaaaMathZ
import Derived.Shelf.Abstract
-- Walks: a list is sorted in descending order; the excess; ProofOk and ProofOf of the program.
namespace Go.Proofs.Ytkcdoacojiilaaa
open Go.RowKit Go.Shelf
set_option maxRecDepth 100000

theorem desc_cmp (g : Nat) : Cmp 56 #[] (fun x y => y - x) (fun x => -1000 ≤ x ∧ x ≤ 1000) g (fun _ => True) where
  ent := enters_of Try.func56 (by kernel_rfl) rfl
  next := fun _ _ => trivial
  set_ := fun _ _ _ => trivial
  call := by
    intro W x y _ hx hy
    simp only [Array.append_empty]
    go_enter Try.func56, Try.ntmps56
    go_wp2
    go_ret
    exact ⟨rfl, Below.refl _ _⟩

set_option maxHeartbeats 1000000 in
theorem bitsLen_c (n : Int) (w : World) (h0 : 0 ≤ n) (hn : n ≤ 255) : Calls Try.prog 61 #[.int .u64 n] w fun e w' => (∃ k : Int, e = .returned (.int .i64 k)) ∧ w = w' := by
  go_enter Try.func61, Try.ntmps61
  go_wp2
  go_ret
  exact ⟨⟨_, rfl⟩, rfl⟩

set_option maxHeartbeats 4000000 in
theorem pdq_c (F : Nat) (cap : Array Value) (cf : Int → Int → Int) (ok : Int → Prop) (lo g n c : Nat) (lim : Int) (Kp : World → Prop) (xs : List Int) (w : World) (hC : Cmp F cap cf ok g Kp) (ho : Own w lo (some ⟨g, 0, none⟩) n xs) (hk : Kp w) (hn : n ≤ 12) (hok : ∀ x ∈ xs, ok x) :
    Calls Try.prog 60 #[.slice (some ⟨g, 0, none⟩) n c, .int .i64 0, .int .i64 n, .int .i64 lim, .func (.func F) #[] cap] w fun e w' => e = .returned (.tuple #[]) ∧ SI w w' lo g n Kp (isort (ltC cf) xs) := by
  have hC' := Lib.hid hC; clear hC
  have hok' := Lib.hid hok; clear hok
  have hk' := Lib.hid hk; clear hk
  go_enter Try.func60, Try.ntmps60
  go_wp2
  refine wp_loop_rounds 1 ?_
  rw [rounds_succ]
  go_wp2_with fail
  refine (insertion_c F cap cf ok lo g n c Kp xs _ hC'.out ho hk'.out (by omega) hok'.out).mono ?_
  rintro e w1 ⟨rfl, hI⟩
  go_wp2
  refine bodyPost_ret (results_none rfl _ _ _) rfl ?_
  exact ⟨rfl, hI⟩

set_option maxHeartbeats 4000000 in
theorem SortFunc_c (F : Nat) (cap : Array Value) (cf : Int → Int → Int) (ok : Int → Prop) (lo g n c : Nat) (Kp : World → Prop) (xs : List Int) (w : World) (hC : Cmp F cap cf ok g Kp) (ho : Own w lo (some ⟨g, 0, none⟩) n xs) (hk : Kp w) (hn : n ≤ 12) (hok : ∀ x ∈ xs, ok x) :
    Calls Try.prog 55 #[.slice (some ⟨g, 0, none⟩) n c, .func (.func F) #[] cap] w fun e w' => e = .returned (.tuple #[]) ∧ SI w w' lo g n Kp (isort (ltC cf) xs) := by
  have hC' := Lib.hid hC; clear hC
  have hok' := Lib.hid hok; clear hok
  have hk' := Lib.hid hk; clear hk
  go_enter Try.func55, Try.ntmps55
  go_wp2_with fail
  refine (bitsLen_c _ _ (by omega) (by omega)).mono ?_
  rintro e w1 ⟨⟨k, rfl⟩, rfl⟩
  go_wp2_with fail
  refine (pdq_c F cap cf ok lo g n c k Kp xs _ hC'.out ho hk'.out hn hok'.out).mono ?_
  rintro e w1 ⟨rfl, hI⟩
  go_wp2
  go_end0
  exact ⟨rfl, hI⟩

set_option maxHeartbeats 4000000 in
theorem sorted_c (A : Option Addr) (n c : Nat) (xs : List Int) (w : World) (hr : Rd w A n xs) (hn0 : 0 < n) (hn : n ≤ 12) (hok : ∀ x ∈ xs, -1000 ≤ x ∧ x ≤ 1000) :
    Calls Try.prog 42 #[.slice A n c] w fun e w' => ∃ g c', e = .returned (.slice (some ⟨g, 0, none⟩) n c') ∧ Below w.heap.size w w' ∧ Own w' w.heap.size (some ⟨g, 0, none⟩) n (dsort xs) ∧ n ≤ c' ∧ c' ≤ maxLen := by
  have hok' := Lib.hid hok; clear hok
  have hE := Lib.hid (show isort (ltC (fun x y => y - x)) xs = dsort xs by
    unfold dsort
    congr 1
    funext x y
    unfold ltC
    rw [Bool.eq_iff_iff]; simp; omega)
  go_enter Try.func42, Try.ntmps42
  go_wp2_with fail
  refine (Clone_c2 _ _ _ xs _ hr hn0 (by omega)).mono ?_
  rintro e w1 ⟨g, c', rfl, hb1, ho1, hc1, hc2⟩
  go_wp2_with fail
  refine (SortFunc_c _ _ _ _ w.heap.size g n c' (fun _ => True) xs _ (desc_cmp g) ho1 trivial hn hok'.out).mono ?_
  rintro e w2 ⟨rfl, hI⟩
  have hI' := Lib.hid hI; clear hI
  go_wp2
  go_ret
  refine ⟨g, c', rfl, ?_, by rw [← hE.out]; exact hI'.out.ow, hc1, hc2⟩
  refine lo_grown hb1 hI'.out.gr ?_
  rintro _ ⟨⟩
  obtain ⟨g', _, e, h1, _⟩ := ho1.2 hn0
  cases e
  exact h1
end Go.Proofs.Ytkcdoacojiilaaa

-- Walks: the excess; ProofOk, ProofOf, ProofColumns of the program.
namespace Go.Proofs.Ytkcdoacojiilaaa
open Go.RowKit
set_option maxRecDepth 100000

theorem Rd.take {w : World} {A : Option Addr} {n k : Nat} {xs : List Int} (h : Rd w A n xs) (hk : k ≤ n) : Rd w A k (xs.take k) :=
  ⟨by rw [List.length_take, h.1]; omega, fun hk0 => by
    obtain ⟨b, off, e, hb, hc⟩ := h.2 (by omega)
    refine ⟨b, off, e, hb, fun j x hx => hc j x ?_⟩
    rw [List.getElem?_take] at hx
    split at hx
    · exact hx
    · cases hx⟩
/-- Σ min over the first k -/
theorem mSum_snoc (cols : List Int) (t : Int) {k : Nat} (hk : k < cols.length) : mSum (cols.take (k + 1)) t = mSum (cols.take k) t + min (cols[k]?.getD 0) t := by
  rw [List.take_succ_eq_append_getElem hk, mSum, List.map_append, List.sum_append]
  simp [mSum, List.getElem?_eq_getElem hk]
theorem mSum_bd {cols : List Int} {t : Int} (h : ∀ x ∈ cols, 0 ≤ x ∧ x ≤ 6) (ht : 0 ≤ t) : 0 ≤ mSum cols t ∧ mSum cols t ≤ 6 * cols.length := by
  have h1 := mSum_le_sum cols t
  have h2 := sum_bd (M := 6) h
  have h3 := mSum_nonneg (c := cols) (t := t) (fun x hx => (h x hx).1) ht
  omega

set_option maxHeartbeats 4000000 in
theorem excess_c (A B : Option Addr) (n m c d t : Nat) (xs ys : List Int) (w : World) (hr : Rd w A n xs) (hq : Rd w B m ys) (hv : sV xs ys = true) (ht : t ≤ n) :
    Calls Try.prog 27 #[.slice A n c, .slice B m d, .int .i64 t] w fun e w' => e = .returned (.int .i64 (exc xs ys t)) ∧ Below w.heap.size w w' := by
  obtain ⟨b1, b2, b3, b4, b5, b6⟩ := sV_out hv
  rw [hr.1] at b1 b2
  rw [hq.1] at b3 b4 b5
  rw [hr.1] at b6
  have b5' := Lib.hid b5
  have hy6 := Lib.hid (show ∀ x ∈ ys, 0 ≤ x ∧ x ≤ 6 from fun x hx => by have := b6 x hx; omega)
  have hyl := Lib.hid hq.1
  have hds := Lib.hid (show ∀ x ∈ (dsort xs).take t, 0 ≤ x ∧ x ≤ 6 from fun x hx => by have := b5 x ((dsort_perm xs).mem_iff.1 (List.mem_of_mem_take hx)); omega)
  have hdl := sum_bd hds.out
  have hdl2 : ((dsort xs).take t).length ≤ 6 := by rw [List.length_take]; omega
  clear b5 b6 hv
  have hE := Lib.hid (show exc xs ys t = ((dsort xs).take t).sum - mSum ys t from rfl)
  go_enter Try.func27, Try.ntmps27
  go_wp2_with fail
  refine (sorted_c A n c xs _ hr (by omega) (by omega) (fun x hx => by have := b5'.out x hx; omega)).mono ?_
  rintro e w1 ⟨g, c', rfl, hb1, ho1, hc1, hc2⟩
  unfold maxLen at hc2
  have hR := ho1.rd.take ht
  clear ho1
  go_wp2_with fail
  refine (total_c _ _ _ 6 _ _ hR (by omega) (by omega) (by omega) hds.out).mono ?_
  rintro e w2 ⟨rfl, rfl⟩
  obtain ⟨S, hS⟩ : ∃ S, S = ((dsort xs).take t).sum := ⟨_, rfl⟩
  rw [← hS] at hdl hE ⊢
  have hS' := Lib.hid hS
  have hE' := Lib.hid hE.out
  clear hS hE hR
  go_wp2
  go_loop [7, 17] (fun s i => ∃ k : Nat, k ≤ m ∧ i = .int .i64 k ∧ s = .int .i64 (S - mSum (ys.take k) t)) (fun _ i => m - (intOf i).toNat)
  case atStart => exact ⟨0, Nat.zero_le _, rfl, by simp [mSum]⟩
  case round =>
    obtain ⟨k, hk, rfl, rfl⟩ := hrel
    by_cases hlt : k < m
    · obtain ⟨b, off, rfl, hb, hc⟩ := (hq.next hb1).at_ hlt
      have hN := Lib.hid (mSum_snoc ys (t : Int) (hyl.out ▸ hlt : k < ys.length))
      have hcy := hy6.out _ (mem_at (hyl.out ▸ hlt : k < ys.length))
      have hmb := mSum_bd (cols := ys.take k) (t := (t : Int)) (fun x hx => hy6.out x (List.mem_of_mem_take hx)) (by omega)
      have hml : (ys.take k).length ≤ 6 := by rw [List.length_take]; omega
      generalize mSum (ys.take k) t = M at hN hmb ⊢
      generalize ys[k]?.getD 0 = y at hc hN hcy ⊢
      rw [show min y (t : Int) = if y ≤ t then y else (t : Int) from rfl] at hN
      by_cases hyt : y ≤ (t : Int)
      · have hN2 := Lib.hid (hN.out.trans (by rw [if_pos hyt]))
        clear hN
        go_wp2
        refine ⟨⟨k + 1, by omega, by go_num, by rw [hN2.out, Int.sub_sub]⟩, ?_⟩
        simp [intOf]; omega
      · have hN2 := Lib.hid (hN.out.trans (by rw [if_neg hyt]))
        have hyt2 : (t : Int) < y := by omega
        clear hN
        go_wp2
        refine ⟨⟨k + 1, by omega, by go_num, by rw [hN2.out, Int.sub_sub]⟩, ?_⟩
        simp [intOf]; omega
    · obtain rfl : k = m := by omega
      have hF := Lib.hid (show ys.take k = ys by rw [List.take_of_length_le (Nat.le_of_eq hyl.out)])
      go_wp2
      go_ret
      exact ⟨by rw [hE'.out, ← hF.out, List.take_take, Nat.min_self]; rfl, hb1⟩

theorem pOk_no {r c : List Int} {t : Int} (h : ¬ (sV r c = true ∧ 0 ≤ t ∧ t ≤ r.length)) : pOk r c t = false := by
  cases e : pOk r c t with
  | false => rfl
  | true => exact absurd (pOk_iff.1 e) (fun h1 => h ⟨h1.1, h1.2.1, h1.2.2.1⟩)
theorem pOk_yes {r c : List Int} {t : Nat} (h1 : sV r c = true) (h3 : t ≤ r.length) : pOk r c (t : Nat) = decide (0 < exc r c t) := by
  have h3' : (t : Int) ≤ r.length := by omega
  simp [pOk, h1, h3']
/-- what ProofOf hands back -/
def pVal (o : Option Nat) : Value := .tuple #[.int .i64 (o.getD 0 : Nat), .bool o.isSome]
theorem pOf_from {r c : List Int} (h : ∀ s : Nat, s < r.length + 1 → pOk r c (s : Nat) = false) : pOf r c = none := by
  refine List.find?_eq_none.2 (fun s _ => ?_)
  rcases Nat.lt_or_ge s (r.length + 1) with h1 | h1
  · rw [h s h1]; simp
  · rw [pOk_no (fun h2 => by have := h2.2.2; omega)]; simp
theorem pOf_first {r c : List Int} {t : Nat} (h1 : pOk r c (t : Nat) = true) (h : ∀ s : Nat, s < t → pOk r c (s : Nat) = false) : pOf r c = some t := by
  obtain ⟨s, hs, h2⟩ := pOf_isSome h1
  obtain ⟨h3, _⟩ := pOf_some hs
  rcases Nat.lt_or_ge s t with h4 | h4
  · rw [h s h4] at h3; cases h3
  · rw [hs]; congr 1; omega
end Go.Proofs.Ytkcdoacojiilaaa

-- Walks: ProofOk, ProofOf, ProofColumns of the reference.
namespace Go.Proofs.Ytkcdoacojiilaaa
open Go.RowKit
set_option maxRecDepth 100000

theorem sV_len {r c : List Int} (h : ¬ (1 ≤ r.length ∧ r.length ≤ 6 ∧ 1 ≤ c.length ∧ c.length ≤ 6)) : sV r c = false := by
  cases e : sV r c with
  | false => rfl
  | true =>
    have := sV_out e
    exact absurd ⟨this.1, this.2.1, this.2.2.1, this.2.2.2.1⟩ h
theorem sV_eq {r c : List Int} (h : 1 ≤ r.length ∧ r.length ≤ 6 ∧ 1 ≤ c.length ∧ c.length ≤ 6) : sV r c = (allIn 0 c.length r && allIn 0 r.length c) := by
  simp [sV, sIn, h]

set_option maxHeartbeats 4000000 in
theorem spec_SumsValid_c (A B : Option Addr) (n m c d : Nat) (xs ys : List Int) (w : World) (hr : Rd w A n xs) (hs : Rd w B m ys) (hn : n ≤ 1073741824) (hm : m ≤ 1073741824) :
    Calls Try.prog 16 #[.slice A n c, .slice B m d] w fun e w' => e = .returned (.bool (sV xs ys)) ∧ w = w' := by
  by_cases h1 : 1 ≤ n ∧ n ≤ 6
  case neg =>
    have hT := Lib.hid (sV_len (r := xs) (c := ys) (fun h => h1 (by rw [hr.1] at h; exact ⟨h.1, h.2.1⟩)))
    go_enter Try.func16, Try.ntmps16
    go_wp2_with fail
    refine (l6In_f _ (by omega)).mono ?_
    rintro e w' ⟨rfl, rfl⟩
    go_wp2
    go_ret
    exact ⟨ret_bool (by rw [hT.out]), rfl⟩
  by_cases h2 : 1 ≤ m ∧ m ≤ 6
  case neg =>
    have hT := Lib.hid (sV_len (r := xs) (c := ys) (fun h => h2 (by rw [hs.1] at h; exact ⟨h.2.2.1, h.2.2.2⟩)))
    go_enter Try.func16, Try.ntmps16
    go_wp2_with fail
    refine (l6In_t _ (by omega)).mono ?_
    rintro e w' ⟨rfl, rfl⟩
    go_wp2_with fail
    refine (l6In_f _ (by omega)).mono ?_
    rintro e w' ⟨rfl, rfl⟩
    go_wp2
    go_ret
    exact ⟨ret_bool (by rw [hT.out]), rfl⟩
  have hT := Lib.hid (show sV xs ys = (allIn 0 (m : Int) xs && allIn 0 (n : Int) ys) by rw [sV_eq (by rw [hr.1, hs.1]; exact ⟨h1.1, h1.2, h2.1, h2.2⟩), hr.1, hs.1])
  cases h3 : allIn 0 (m : Int) xs with
  | false =>
    have hT2 := Lib.hid (hT.out.trans (by rw [h3]; rfl : _ = false))
    go_enter Try.func16, Try.ntmps16
    go_wp2_with fail
    refine (l6In_t _ (by omega)).mono ?_
    rintro e w' ⟨rfl, rfl⟩
    go_wp2_with fail
    refine (l6In_t _ (by omega)).mono ?_
    rintro e w' ⟨rfl, rfl⟩
    go_wp2_with fail
    refine (l2Each_c _ _ _ _ _ xs _ hr hn).mono ?_
    rw [h3]
    rintro e w1 ⟨rfl, rfl⟩
    go_wp2
    go_ret
    exact ⟨ret_bool (by rw [hT2.out]), rfl⟩
  | true =>
    have hT2 := Lib.hid (hT.out.trans (by rw [h3]; rfl : _ = allIn 0 (n : Int) ys))
    go_enter Try.func16, Try.ntmps16
    go_wp2_with fail
    refine (l6In_t _ (by omega)).mono ?_
    rintro e w' ⟨rfl, rfl⟩
    go_wp2_with fail
    refine (l6In_t _ (by omega)).mono ?_
    rintro e w' ⟨rfl, rfl⟩
    go_wp2_with fail
    refine (l2Each_c _ _ _ _ _ xs _ hr hn).mono ?_
    rw [h3]
    rintro e w1 ⟨rfl, rfl⟩
    clear h3
    go_wp2_with fail
    refine (l2Each_c _ _ _ _ _ ys _ hs hm).mono ?_
    rintro e w2 ⟨rfl, rfl⟩
    go_wp2
    go_ret
    exact ⟨ret_bool (by rw [hT2.out]), rfl⟩

/-- what is sorted when k values have been gone through -/
def cDone (xs : List Int) : Nat → List Int
  | 0 => []
  | k + 1 => cDone xs k ++ xs.filter (fun x => decide (x = 6 - (k : Int)))
theorem cDone_all (xs : List Int) : cDone xs 7 = csort xs 6 := by
  simp only [cDone, csort, List.append_assoc, List.nil_append]
  rfl
theorem cDone_len (xs : List Int) : ∀ k : Nat, (cDone xs k).length ≤ k * xs.length
  | 0 => by simp [cDone]
  | k + 1 => by
    have h1 := cDone_len xs k
    have h2 := List.length_filter_le (fun x => decide (x = 6 - (k : Int))) xs
    rw [cDone, List.length_append, Nat.succ_mul]
    omega
theorem filter_snoc (xs : List Int) (v : Int) {k : Nat} (hk : k < xs.length) : (xs.take (k + 1)).filter (fun x => decide (x = v)) = (xs.take k).filter (fun x => decide (x = v)) ++ (if xs[k]?.getD 0 = v then [v] else []) := by
  rw [List.take_succ_eq_append_getElem hk, List.filter_append]
  simp only [List.getElem?_eq_getElem hk, Option.getD_some, List.filter_cons, List.filter_nil]
  by_cases h : xs[k] = v
  · simp [h]
  · simp [h]

/-- a list of one's own, and true -/
def ListOk (w : World) (l : List Int) (e : Ending) (w' : World) : Prop := ∃ R r c', e = .returned (.tuple #[.slice R r c', .bool true]) ∧ Below w.heap.size w w' ∧ Own w' w.heap.size R r l
end Go.Proofs.Ytkcdoacojiilaaa

-- Walks: ProofOk, ProofOf, ProofColumns of the reference (2).
namespace Go.Proofs.Ytkcdoacojiilaaa
open Go.RowKit
set_option maxRecDepth 100000

end Go.Proofs.Ytkcdoacojiilaaa
