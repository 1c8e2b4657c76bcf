
/- Plain facts and walks that the law's proof uses; each says its own conditions. -/
import Derived.Test.YtkcdoacojiilaaaGreatIns
import Derived.Test.YtkcdoacojiilaaaGreatCn
import Derived.Test.YtkcdoacojiilaaaGreatMathZ
import Derived.Shelf.Abstract
-- Walks: a list is sorted in descending order; the excess; ProofOk and ProofOf of the program.
namespace Go.Proofs.YtkcdoacojiilaaaGreat
open Go.RowKit Go.Shelf
set_option maxRecDepth 100000

theorem desc_cmp (g : Nat) : Cmp 70 #[] (fun x y => y - x) (fun x => -1000 ≤ x ∧ x ≤ 1000) g (fun _ => True) where
  ent := enters_of Tryz.func70 (by kernel_rfl) rfl
  next := fun _ _ => trivial
  set_ := fun _ _ _ => trivial
  call := by
    intro W x y _ hx hy
    simp only [Array.append_empty]
    go_enter Tryz.func70, Tryz.ntmps70
    go_wp2
    go_ret
    exact ⟨rfl, Below.refl _ _⟩

set_option maxHeartbeats 1000000 in
theorem bitsLen_c (n : Int) (w : World) (h0 : 0 ≤ n) (hn : n ≤ 255) : Calls Tryz.prog 83 #[.int .u64 n] w fun e w' => (∃ k : Int, e = .returned (.int .i64 k)) ∧ w = w' := by
  go_enter Tryz.func83, Tryz.ntmps83
  go_wp2
  go_ret
  exact ⟨⟨_, rfl⟩, rfl⟩

set_option maxHeartbeats 4000000 in
theorem pdq_c (F : Nat) (cap : Array Value) (cf : Int → Int → Int) (ok : Int → Prop) (lo g n c : Nat) (lim : Int) (Kp : World → Prop) (xs : List Int) (w : World) (hC : Cmp F cap cf ok g Kp) (ho : Own w lo (some ⟨g, 0, none⟩) n xs) (hk : Kp w) (hn : n ≤ 12) (hok : ∀ x ∈ xs, ok x) :
    Calls Tryz.prog 82 #[.slice (some ⟨g, 0, none⟩) n c, .int .i64 0, .int .i64 n, .int .i64 lim, .func (.func F) #[] cap] w fun e w' => e = .returned (.tuple #[]) ∧ SI w w' lo g n Kp (isort (ltC cf) xs) := by
  have hC' := Lib.hid hC; clear hC
  have hok' := Lib.hid hok; clear hok
  have hk' := Lib.hid hk; clear hk
  go_enter Tryz.func82, Tryz.ntmps82
  go_wp2
  refine wp_loop_rounds 1 ?_
  rw [rounds_succ]
  go_wp2_with fail
  refine (insertion_c F cap cf ok lo g n c Kp xs _ hC'.out ho hk'.out (by omega) hok'.out).mono ?_
  rintro e w1 ⟨rfl, hI⟩
  go_wp2
  refine bodyPost_ret (results_none rfl _ _ _) rfl ?_
  exact ⟨rfl, hI⟩

set_option maxHeartbeats 4000000 in
theorem SortFunc_c (F : Nat) (cap : Array Value) (cf : Int → Int → Int) (ok : Int → Prop) (lo g n c : Nat) (Kp : World → Prop) (xs : List Int) (w : World) (hC : Cmp F cap cf ok g Kp) (ho : Own w lo (some ⟨g, 0, none⟩) n xs) (hk : Kp w) (hn : n ≤ 12) (hok : ∀ x ∈ xs, ok x) :
    Calls Tryz.prog 69 #[.slice (some ⟨g, 0, none⟩) n c, .func (.func F) #[] cap] w fun e w' => e = .returned (.tuple #[]) ∧ SI w w' lo g n Kp (isort (ltC cf) xs) := by
  have hC' := Lib.hid hC; clear hC
  have hok' := Lib.hid hok; clear hok
  have hk' := Lib.hid hk; clear hk
  go_enter Tryz.func69, Tryz.ntmps69
  go_wp2_with fail
  refine (bitsLen_c _ _ (by omega) (by omega)).mono ?_
  rintro e w1 ⟨⟨k, rfl⟩, rfl⟩
  go_wp2_with fail
  refine (pdq_c F cap cf ok lo g n c k Kp xs _ hC'.out ho hk'.out hn hok'.out).mono ?_
  rintro e w1 ⟨rfl, hI⟩
  go_wp2
  go_end0
  exact ⟨rfl, hI⟩

set_option maxHeartbeats 4000000 in
theorem sorted_c (A : Option Addr) (n c : Nat) (xs : List Int) (w : World) (hr : Rd w A n xs) (hn0 : 0 < n) (hn : n ≤ 12) (hok : ∀ x ∈ xs, -1000 ≤ x ∧ x ≤ 1000) :
    Calls Tryz.prog 50 #[.slice A n c] w fun e w' => ∃ g c', e = .returned (.slice (some ⟨g, 0, none⟩) n c') ∧ Below w.heap.size w w' ∧ Own w' w.heap.size (some ⟨g, 0, none⟩) n (dsort xs) ∧ n ≤ c' ∧ c' ≤ maxLen := by
  have hok' := Lib.hid hok; clear hok
  have hE := Lib.hid (show isort (ltC (fun x y => y - x)) xs = dsort xs by
    unfold dsort
    congr 1
    funext x y
    unfold ltC
    rw [Bool.eq_iff_iff]; simp; omega)
  go_enter Tryz.func50, Tryz.ntmps50
  go_wp2_with fail
  refine (Clone_c2 _ _ _ xs _ hr hn0 (by omega)).mono ?_
  rintro e w1 ⟨g, c', rfl, hb1, ho1, hc1, hc2⟩
  go_wp2_with fail
  refine (SortFunc_c _ _ _ _ w.heap.size g n c' (fun _ => True) xs _ (desc_cmp g) ho1 trivial hn hok'.out).mono ?_
  rintro e w2 ⟨rfl, hI⟩
  have hI' := Lib.hid hI; clear hI
  go_wp2
  go_ret
  refine ⟨g, c', rfl, ?_, by rw [← hE.out]; exact hI'.out.ow, hc1, hc2⟩
  refine lo_grown hb1 hI'.out.gr ?_
  rintro _ ⟨⟩
  obtain ⟨g', _, e, h1, _⟩ := ho1.2 hn0
  cases e
  exact h1
end Go.Proofs.YtkcdoacojiilaaaGreat

-- Walks: the excess; ProofOk, ProofOf, ProofColumns of the program.
namespace Go.Proofs.YtkcdoacojiilaaaGreat
open Go.RowKit
set_option maxRecDepth 100000

theorem Rd.take {w : World} {A : Option Addr} {n k : Nat} {xs : List Int} (h : Rd w A n xs) (hk : k ≤ n) : Rd w A k (xs.take k) :=
  ⟨by rw [List.length_take, h.1]; omega, fun hk0 => by
    obtain ⟨b, off, e, hb, hc⟩ := h.2 (by omega)
    refine ⟨b, off, e, hb, fun j x hx => hc j x ?_⟩
    rw [List.getElem?_take] at hx
    split at hx
    · exact hx
    · cases hx⟩
/-- Σ min over the first k -/
theorem mSum_snoc (cols : List Int) (t : Int) {k : Nat} (hk : k < cols.length) : mSum (cols.take (k + 1)) t = mSum (cols.take k) t + min (cols[k]?.getD 0) t := by
  rw [List.take_succ_eq_append_getElem hk, mSum, List.map_append, List.sum_append]
  simp [mSum, List.getElem?_eq_getElem hk]
theorem mSum_bd {cols : List Int} {t : Int} (h : ∀ x ∈ cols, 0 ≤ x ∧ x ≤ 6) (ht : 0 ≤ t) : 0 ≤ mSum cols t ∧ mSum cols t ≤ 6 * cols.length := by
  have h1 := mSum_le_sum cols t
  have h2 := sum_bd (M := 6) h
  have h3 := mSum_nonneg (c := cols) (t := t) (fun x hx => (h x hx).1) ht
  omega

theorem pOk_no {r c : List Int} {t : Int} (h : ¬ (sV r c = true ∧ 0 ≤ t ∧ t ≤ r.length)) : pOk r c t = false := by
  cases e : pOk r c t with
  | false => rfl
  | true => exact absurd (pOk_iff.1 e) (fun h1 => h ⟨h1.1, h1.2.1, h1.2.2.1⟩)
theorem pOk_yes {r c : List Int} {t : Nat} (h1 : sV r c = true) (h3 : t ≤ r.length) : pOk r c (t : Nat) = decide (0 < exc r c t) := by
  have h3' : (t : Int) ≤ r.length := by omega
  simp [pOk, h1, h3']
/-- what ProofOf hands back -/
def pVal (o : Option Nat) : Value := .tuple #[.int .i64 (o.getD 0 : Nat), .bool o.isSome]
theorem pOf_from {r c : List Int} (h : ∀ s : Nat, s < r.length + 1 → pOk r c (s : Nat) = false) : pOf r c = none := by
  refine List.find?_eq_none.2 (fun s _ => ?_)
  rcases Nat.lt_or_ge s (r.length + 1) with h1 | h1
  · rw [h s h1]; simp
  · rw [pOk_no (fun h2 => by have := h2.2.2; omega)]; simp
theorem pOf_first {r c : List Int} {t : Nat} (h1 : pOk r c (t : Nat) = true) (h : ∀ s : Nat, s < t → pOk r c (s : Nat) = false) : pOf r c = some t := by
  obtain ⟨s, hs, h2⟩ := pOf_isSome h1
  obtain ⟨h3, _⟩ := pOf_some hs
  rcases Nat.lt_or_ge s t with h4 | h4
  · rw [h s h4] at h3; cases h3
  · rw [hs]; congr 1; omega
end Go.Proofs.YtkcdoacojiilaaaGreat

-- Walks: ProofOk, ProofOf, ProofColumns of the reference.
namespace Go.Proofs.YtkcdoacojiilaaaGreat
open Go.RowKit
set_option maxRecDepth 100000

theorem sV_len {r c : List Int} (h : ¬ (1 ≤ r.length ∧ r.length ≤ 6 ∧ 1 ≤ c.length ∧ c.length ≤ 6)) : sV r c = false := by
  cases e : sV r c with
  | false => rfl
  | true =>
    have := sV_out e
    exact absurd ⟨this.1, this.2.1, this.2.2.1, this.2.2.2.1⟩ h
theorem sV_eq {r c : List Int} (h : 1 ≤ r.length ∧ r.length ≤ 6 ∧ 1 ≤ c.length ∧ c.length ≤ 6) : sV r c = (allIn 0 c.length r && allIn 0 r.length c) := by
  simp [sV, sIn, h]

set_option maxHeartbeats 4000000 in
theorem spec_SumsValid_c (A B : Option Addr) (n m c d : Nat) (xs ys : List Int) (w : World) (hr : Rd w A n xs) (hs : Rd w B m ys) (hn : n ≤ 1073741824) (hm : m ≤ 1073741824) :
    Calls Tryz.prog 17 #[.slice A n c, .slice B m d] w fun e w' => e = .returned (.bool (sV xs ys)) ∧ w = w' := by
  by_cases h1 : 1 ≤ n ∧ n ≤ 6
  case neg =>
    have hT := Lib.hid (sV_len (r := xs) (c := ys) (fun h => h1 (by rw [hr.1] at h; exact ⟨h.1, h.2.1⟩)))
    go_enter Tryz.func17, Tryz.ntmps17
    go_wp2_with fail
    refine (l6In_f _ (by omega)).mono ?_
    rintro e w' ⟨rfl, rfl⟩
    go_wp2
    go_ret
    exact ⟨ret_bool (by rw [hT.out]), rfl⟩
  by_cases h2 : 1 ≤ m ∧ m ≤ 6
  case neg =>
    have hT := Lib.hid (sV_len (r := xs) (c := ys) (fun h => h2 (by rw [hs.1] at h; exact ⟨h.2.2.1, h.2.2.2⟩)))
    go_enter Tryz.func17, Tryz.ntmps17
    go_wp2_with fail
    refine (l6In_t _ (by omega)).mono ?_
    rintro e w' ⟨rfl, rfl⟩
    go_wp2_with fail
    refine (l6In_f _ (by omega)).mono ?_
    rintro e w' ⟨rfl, rfl⟩
    go_wp2
    go_ret
    exact ⟨ret_bool (by rw [hT.out]), rfl⟩
  have hT := Lib.hid (show sV xs ys = (allIn 0 (m : Int) xs && allIn 0 (n : Int) ys) by rw [sV_eq (by rw [hr.1, hs.1]; exact ⟨h1.1, h1.2, h2.1, h2.2⟩), hr.1, hs.1])
  cases h3 : allIn 0 (m : Int) xs with
  | false =>
    have hT2 := Lib.hid (hT.out.trans (by rw [h3]; rfl : _ = false))
    go_enter Tryz.func17, Tryz.ntmps17
    go_wp2_with fail
    refine (l6In_t _ (by omega)).mono ?_
    rintro e w' ⟨rfl, rfl⟩
    go_wp2_with fail
    refine (l6In_t _ (by omega)).mono ?_
    rintro e w' ⟨rfl, rfl⟩
    go_wp2_with fail
    refine (l2Each_c _ _ _ _ _ xs _ hr hn).mono ?_
    rw [h3]
    rintro e w1 ⟨rfl, rfl⟩
    go_wp2
    go_ret
    exact ⟨ret_bool (by rw [hT2.out]), rfl⟩
  | true =>
    have hT2 := Lib.hid (hT.out.trans (by rw [h3]; rfl : _ = allIn 0 (n : Int) ys))
    go_enter Tryz.func17, Tryz.ntmps17
    go_wp2_with fail
    refine (l6In_t _ (by omega)).mono ?_
    rintro e w' ⟨rfl, rfl⟩
    go_wp2_with fail
    refine (l6In_t _ (by omega)).mono ?_
    rintro e w' ⟨rfl, rfl⟩
    go_wp2_with fail
    refine (l2Each_c _ _ _ _ _ xs _ hr hn).mono ?_
    rw [h3]
    rintro e w1 ⟨rfl, rfl⟩
    clear h3
    go_wp2_with fail
    refine (l2Each_c _ _ _ _ _ ys _ hs hm).mono ?_
    rintro e w2 ⟨rfl, rfl⟩
    go_wp2
    go_ret
    exact ⟨ret_bool (by rw [hT2.out]), rfl⟩

/-- what is sorted when k values have been gone through -/
def cDone (xs : List Int) : Nat → List Int
  | 0 => []
  | k + 1 => cDone xs k ++ xs.filter (fun x => decide (x = 6 - (k : Int)))
theorem cDone_all (xs : List Int) : cDone xs 7 = csort xs 6 := by
  simp only [cDone, csort, List.append_assoc, List.nil_append]
  rfl
theorem cDone_len (xs : List Int) : ∀ k : Nat, (cDone xs k).length ≤ k * xs.length
  | 0 => by simp [cDone]
  | k + 1 => by
    have h1 := cDone_len xs k
    have h2 := List.length_filter_le (fun x => decide (x = 6 - (k : Int))) xs
    rw [cDone, List.length_append, Nat.succ_mul]
    omega
theorem filter_snoc (xs : List Int) (v : Int) {k : Nat} (hk : k < xs.length) : (xs.take (k + 1)).filter (fun x => decide (x = v)) = (xs.take k).filter (fun x => decide (x = v)) ++ (if xs[k]?.getD 0 = v then [v] else []) := by
  rw [List.take_succ_eq_append_getElem hk, List.filter_append]
  simp only [List.getElem?_eq_getElem hk, Option.getD_some, List.filter_cons, List.filter_nil]
  by_cases h : xs[k] = v
  · simp [h]
  · simp [h]

/-- a list of one's own, and true -/
def ListOk (w : World) (l : List Int) (e : Ending) (w' : World) : Prop := ∃ R r c', e = .returned (.tuple #[.slice R r c', .bool true]) ∧ Below w.heap.size w w' ∧ Own w' w.heap.size R r l
end Go.Proofs.YtkcdoacojiilaaaGreat

-- Walks: ProofOk, ProofOf, ProofColumns of the reference (2).
namespace Go.Proofs.YtkcdoacojiilaaaGreat
open Go.RowKit
set_option maxRecDepth 100000

end Go.Proofs.YtkcdoacojiilaaaGreat
