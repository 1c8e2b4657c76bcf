/- Plain facts and walks that the law's proof uses; each says its own conditions. -/
import Derived.Test.YtpeiolimdglmhaaGreatDoorZ11
-- Plain mathematics: the conjugate of a list of sums, and what consistent says.
namespace Go.Proofs.YtpeiolimdglmhaaGreatDoor

def cnt (r : List Int) (j : Nat) : Int := ((r.filter (fun x => decide ((j : Int) < x))).length : Int)
def bmp (r : List Int) (n : Nat) (k : Int) : List Int := (List.range n).map (fun j => cnt r j + if (j : Int) < k then 1 else 0)
def conj (r : List Int) (n : Nat) : List Int := (List.range n).map (cnt r)
theorem cnt_cons (a : Int) (l : List Int) (j : Nat) : cnt (a :: l) j = cnt l j + if (j : Int) < a then 1 else 0 := by
  unfold cnt
  by_cases h : (j : Int) < a
  · rw [List.filter_cons_of_pos (by simpa using h), if_pos h]; simp
  · rw [List.filter_cons_of_neg (by simpa using h), if_neg h]; simp
theorem cnt_snoc (l : List Int) (a : Int) (j : Nat) : cnt (l ++ [a]) j = cnt l j + if (j : Int) < a then 1 else 0 := by
  unfold cnt
  rw [List.filter_append, List.length_append]
  by_cases h : (j : Int) < a
  · rw [List.filter_cons_of_pos (by simpa using h), if_pos h]; simp
  · rw [List.filter_cons_of_neg (by simpa using h), if_neg h]; simp
theorem cnt_bd (r : List Int) (j : Nat) : 0 ≤ cnt r j ∧ cnt r j ≤ r.length := by
  unfold cnt
  have := List.length_filter_le (fun x => decide ((j : Int) < x)) r
  omega
theorem cnt_anti (r : List Int) (j : Nat) : cnt r (j + 1) ≤ cnt r j := by
  induction r with
  | nil => simp [cnt]
  | cons a l ih =>
    rw [cnt_cons, cnt_cons]
    by_cases h : ((j + 1 : Nat) : Int) < a
    · rw [if_pos h, if_pos (by omega)]; omega
    · rw [if_neg h]
      split <;> omega
theorem bmp_len (r : List Int) (n : Nat) (k : Int) : (bmp r n k).length = n := by simp [bmp]
theorem conj_len (r : List Int) (n : Nat) : (conj r n).length = n := by simp [conj]
theorem bmp_zero (r : List Int) (n : Nat) : bmp r n 0 = conj r n := by
  unfold bmp conj
  refine List.map_congr_left (fun j _ => ?_)
  rw [if_neg (by omega)]; omega
theorem bmp_snoc (r : List Int) (n : Nat) (x : Int) : bmp r n x = conj (r ++ [x]) n := by
  unfold bmp conj
  exact List.map_congr_left (fun j _ => (cnt_snoc r x j).symm)
theorem bmp_at {r : List Int} {n k : Nat} {t : Int} (h : k < n) : (bmp r n t)[k]?.getD 0 = cnt r k + if (k : Int) < t then 1 else 0 := by simp [bmp, h]
theorem conj_at {r : List Int} {n k : Nat} (h : k < n) : (conj r n)[k]?.getD 0 = cnt r k := by simp [conj, h]
theorem bmp_step (r : List Int) (n k : Nat) (h : k < n) : (bmp r n (k : Nat)).set k ((bmp r n (k : Nat))[k]?.getD 0 + 1) = bmp r n ((k + 1 : Nat) : Int) := by
  refine List.ext_getElem? (fun j => ?_)
  rw [List.getElem?_set]
  by_cases hj : k = j
  · subst hj
    rw [if_pos rfl, if_pos (by rw [bmp_len]; exact h), bmp_at h]
    simp [bmp, h]
    omega
  · rw [if_neg hj]
    rcases Nat.lt_or_ge j n with h1 | h1
    · have e : ((j : Int) < ((k : Nat) : Int)) ↔ ((j : Int) < ((k + 1 : Nat) : Int)) := by omega
      by_cases h2 : (j : Int) < ((k : Nat) : Int)
      · simp only [bmp, List.getElem?_map, List.getElem?_range h1, Option.map_some, if_pos h2, if_pos (e.1 h2)]
      · simp only [bmp, List.getElem?_map, List.getElem?_range h1, Option.map_some, if_neg h2, if_neg (fun h3 => h2 (e.2 h3))]
    · rw [List.getElem?_eq_none (by rw [bmp_len]; exact h1), List.getElem?_eq_none (by rw [bmp_len]; exact h1)]
theorem conj_nil (n : Nat) : conj [] n = List.replicate n 0 := by
  refine List.ext_getElem? (fun j => ?_)
  rcases Nat.lt_or_ge j n with h | h
  · simp [conj, h, cnt]
  · rw [List.getElem?_eq_none (by rw [conj_len]; exact h), List.getElem?_eq_none (by simpa using h)]
theorem mSum_at0 {r : List Int} (h : ∀ x ∈ r, 0 ≤ x) : mSum r ((0 : Nat) : Int) = 0 := by
  induction r with
  | nil => rfl
  | cons a l ih =>
    have h1 := ih (fun x hx => h x (List.mem_cons_of_mem _ hx))
    have h2 := h a (List.mem_cons_self ..)
    simp [mSum] at h1 ⊢
    omega
theorem mSum_succ (r : List Int) (k : Nat) : mSum r ((k + 1 : Nat) : Int) = mSum r (k : Nat) + cnt r k := by
  induction r with
  | nil => simp [mSum, cnt]
  | cons a l ih =>
    rw [cnt_cons]
    simp only [mSum, List.map_cons, List.sum_cons] at ih ⊢
    by_cases h : (k : Int) < a
    · rw [if_pos h]; omega
    · rw [if_neg h]; omega
theorem conj_take {r : List Int} (h : ∀ x ∈ r, 0 ≤ x) (n : Nat) : ∀ k, k ≤ n → ((conj r n).take k).sum = mSum r (k : Nat)
  | 0, _ => by rw [mSum_at0 h]; rfl
  | k + 1, hk => by
    rw [mSum_succ, ← conj_take h n k (by omega), sum_snoc _ (by rw [conj_len]; omega), conj_at (by omega)]
theorem mSum_top {r : List Int} {n k : Nat} (h : ∀ x ∈ r, x ≤ n) (hk : n ≤ k) : mSum r (k : Nat) = r.sum := by
  induction r with
  | nil => rfl
  | cons a l ih =>
    have h1 := ih (fun x hx => h x (List.mem_cons_of_mem _ hx))
    have h2 := h a (List.mem_cons_self ..)
    simp only [mSum, List.map_cons, List.sum_cons] at h1 ⊢
    omega
theorem conj_takes {r : List Int} {n : Nat} (h : ∀ x ∈ r, 0 ≤ x ∧ x ≤ n) (k : Nat) : ((conj r n).take k).sum = mSum r (k : Nat) := by
  rcases Nat.lt_or_ge n k with h1 | h1
  · rw [List.take_of_length_le (by rw [conj_len]; omega), mSum_top (n := n) (fun x hx => (h x hx).2) (by omega)]
    have := conj_take (fun x hx => (h x hx).1) n n (Nat.le_refl _)
    rw [List.take_of_length_le (by rw [conj_len]; omega)] at this
    rw [this, mSum_top (n := n) (fun x hx => (h x hx).2) (Nat.le_refl _)]
  · exact conj_take (fun x hx => (h x hx).1) n k h1
theorem conj_sum {r : List Int} {n : Nat} (h : ∀ x ∈ r, 0 ≤ x ∧ x ≤ n) : (conj r n).sum = r.sum := by
  have := conj_takes h n
  rw [List.take_of_length_le (by rw [conj_len]; omega), mSum_top (n := n) (fun x hx => (h x hx).2) (Nat.le_refl _)] at this
  exact this

/-- a partition that lies in the limits -/
structure PV (p : List Int) : Prop where
  len : p.length ≤ 6
  bd : ∀ x ∈ p, 0 ≤ x ∧ x ≤ 6
  desc : ∀ i, i + 1 < p.length → p[i + 1]?.getD 0 ≤ p[i]?.getD 0
/-- PartBelow of two partitions -/
def pB (a b : List Int) : Bool := decide (a.sum = b.sum) && (List.range 6).all (fun k => decide ((a.take k).sum ≤ (b.take k).sum))
theorem pv_conj {r : List Int} {n : Nat} (hr : r.length ≤ 6) (hn : n ≤ 6) : PV (conj r n) where
  len := by rw [conj_len]; exact hn
  bd := by
    intro x hx
    simp only [conj, List.mem_map] at hx
    obtain ⟨j, _, rfl⟩ := hx
    have := cnt_bd r j
    omega
  desc := by
    intro i hi
    rw [conj_len] at hi
    rw [conj_at hi, conj_at (by omega)]
    exact cnt_anti r i
theorem consB_pB {r c : List Int} (h : sV r c = true) : pB (dsort c) (conj r c.length) = consB r c := by
  obtain ⟨h1, h2, h3, h4, h5, h6⟩ := sV_out h
  have hs : (dsort c).sum = c.sum := perm_sum (dsort_perm c)
  rw [pB, consB, h, hs, conj_sum h5, Bool.true_and, Bool.eq_iff_iff]
  simp only [Bool.and_eq_true, decide_eq_true_eq, List.all_eq_true, List.mem_range]
  constructor
  · rintro ⟨e, k1⟩
    refine ⟨e.symm, fun k hk => ?_⟩
    rw [exc, tSum]
    rcases Nat.lt_or_ge k 6 with h7 | h7
    · have := k1 k h7
      rw [conj_takes h5] at this
      omega
    · rw [List.take_of_length_le (by rw [dsort_len]; omega), hs, mSum_top (n := c.length) (fun x hx => (h5 x hx).2) (by omega)]
      omega
  · rintro ⟨e, k1⟩
    refine ⟨e.symm, fun k hk => ?_⟩
    have := k1 k (by omega)
    rw [exc, tSum] at this
    rw [conj_takes h5]
    omega
theorem pv_dsort {c : List Int} (hc : c.length ≤ 6) (hb : ∀ x ∈ c, 0 ≤ x ∧ x ≤ 6) : PV (dsort c) where
  len := by rw [dsort_len]; exact hc
  bd := fun x hx => hb x ((dsort_perm c).mem_iff.1 hx)
  desc := by
    intro i hi
    have h1 : i < (dsort c).length := by omega
    have := List.pairwise_iff_getElem.1 (dsort_sorted c) i (i + 1) h1 hi (by omega)
    simpa [List.getElem?_eq_getElem hi, List.getElem?_eq_getElem h1] using this
end Go.Proofs.YtpeiolimdglmhaaGreatDoor
