/- Plain facts and walks that the law's proof uses; each says its own conditions. -/
import Derived.Test.YtpeiolimdglmhaaGreatDoorZ07
import Derived.Test.YtpeiolimdglmhaaGreatDoorZ20
import Derived.Test.YtpeiolimdglmhaaGreatDoorZ11
import Derived.Deep.RegionHeld3
import Derived.Deep.RegionWith
import Derived.Deep.QuietTactic
import Derived.BigQuiet
import Derived.Test.YtpeiolimdglmhaaGreatDoorZ22
import Derived.Test.YtpeiolimdglmhaaGreatDoorZ23
import Derived.OwnWalkIn
import Derived.Test.YtpeiolimdglmhaaGreatDoorZ27
-- Plain facts and walks that the law's proof uses; each says its own conditions.
namespace Go.Proofs.YtpeiolimdglmhaaGreatDoor

theorem pop_sum (r : Nat) : pop r = sumN 6 (fun j => b1 (r.testBit j)) := by
  simp [pop, sumN, b1, List.range_succ, List.countP_cons]
  omega
theorem pop_sumN {m r : Nat} (hm : m ≤ 6) (h : r < 2 ^ m) : pop r = sumN m (fun j => b1 (r.testBit j)) := by
  have key : ∀ k, m + k ≤ 6 → sumN (m + k) (fun j => b1 (r.testBit j)) = sumN m (fun j => b1 (r.testBit j)) := by
    intro k
    induction k with
    | zero => intro _; rfl
    | succ k ih =>
      intro hk
      rw [← Nat.add_assoc]
      simp only [sumN]
      rw [ih (by omega), Nat.testBit_lt_two_pow (Nat.lt_of_lt_of_le h (Nat.pow_le_pow_right (by omega) (Nat.le_add_right m k)))]
      simp [b1]
  rw [pop_sum, ← key (6 - m) (by omega), show m + (6 - m) = 6 by omega]
theorem pop_le (r : Nat) : pop r ≤ 6 := by
  have h : pop r ≤ (List.range 6).length := List.countP_le_length
  simpa using h
theorem okB_cell {m : Nat} {xs : List Int} (h : okB (m : Int) xs = true) {i : Nat} (hi : i < xs.length) : ∃ r : Nat, xs[i]?.getD 0 = (r : Int) ∧ r < 2 ^ m := by
  have h1 := okB_cells h xs[i] (List.getElem_mem hi)
  refine ⟨xs[i].toNat, ?_, h1.2⟩
  simp only [List.getElem?_eq_getElem hi, Option.getD_some]
  omega
theorem countP_sum : ∀ (xs : List Int) (p : Int → Bool), xs.countP p = sumN xs.length (fun i => b1 (p (xs[i]?.getD 0))) := by
  have key : ∀ (p : Int → Bool) (n : Nat) (xs : List Int), xs.length = n → xs.countP p = sumN n (fun i => b1 (p (xs[i]?.getD 0))) := by
    intro p n
    induction n with
    | zero => intro xs h; rw [List.eq_nil_of_length_eq_zero h]; rfl
    | succ n ih =>
      intro xs h
      have e : xs = xs.take n ++ [xs[n]?.getD 0] := by
        rw [List.getElem?_eq_getElem (by omega), Option.getD_some, List.take_append_getElem (by omega)]
        rw [List.take_of_length_le (by omega)]
      simp only [sumN]
      have h1 := ih (xs.take n) (by simp; omega)
      have h2 : sumN n (fun i => b1 (p ((xs.take n)[i]?.getD 0))) = sumN n (fun i => b1 (p (xs[i]?.getD 0))) := sumN_congr fun i hi => by rw [List.getElem?_take_of_lt hi]
      rw [← h2, ← h1]
      conv => lhs; rw [e, List.countP_append, List.countP_singleton]
      rfl
  intro xs p
  exact key p _ xs rfl
theorem same2_to {m : Nat} {xs ys : List Int} (hx : okB (m : Int) xs = true) (hy : okB (m : Int) ys = true) (hl : xs.length = ys.length) (h : Same2 xs.length m (cellF xs) (cellF ys)) : rSums (m : Int) xs = rSums (m : Int) ys ∧ cSums (m : Int) xs = cSums (m : Int) ys := by
  have hb := okB_bd hx
  simp only [rSums, hx, hy, if_true, rsum, cSums, csum, Int.toNat_natCast]
  refine ⟨List.ext_getElem (by simp [hl]) (fun i h1 h2 => ?_), List.map_congr_left fun j hj => ?_⟩
  · have hi : i < xs.length := by simpa using h1
    have hi' : i < ys.length := by omega
    obtain ⟨r, e1, e2⟩ := okB_cell hx hi
    obtain ⟨s, e3, e4⟩ := okB_cell hy hi'
    have e := h.1 i hi
    simp only [List.getElem?_eq_getElem hi, List.getElem?_eq_getElem hi', Option.getD_some] at e1 e3
    have g1 : (fun j => b1 (cellF xs i j)) = fun j => b1 (r.testBit j) := by funext j; simp [cellF, List.getElem?_eq_getElem hi, e1]
    have g2 : (fun j => b1 (cellF ys i j)) = fun j => b1 (s.testBit j) := by funext j; simp [cellF, List.getElem?_eq_getElem hi', e3]
    rw [g1, g2, ← pop_sumN (by omega) e2, ← pop_sumN (by omega) e4] at e
    simp [e1, e3, e]
  · have e := h.2 j (List.mem_range.1 hj)
    have e2 : ccnt xs j = ccnt ys j := by
      unfold ccnt
      rw [countP_sum, countP_sum, ← hl]
      exact e
    rw [e2]
theorem swDo_ok2 {m : Nat} {xs : List Int} (h : okB (m : Int) xs = true) (s : Sw) : okB (m : Int) (swDo m xs s) = true := by
  have hb := okB_bd h
  unfold swDo
  exact okB_img (by omega) (by omega) (by omega) (by omega)
theorem inSw_out {s : Sw} {i j : Nat} (h : ¬ ((i = s.a ∨ i = s.b) ∧ (j = s.c ∨ j = s.d))) : inSw s i j = false := by
  simp only [inSw, Bool.and_eq_false_iff, Bool.or_eq_false_iff, beq_eq_false_iff_ne]
  omega
theorem inSw_in {s : Sw} {i j : Nat} (h : (i = s.a ∨ i = s.b) ∧ (j = s.c ∨ j = s.d)) : inSw s i j = true := by
  simp only [inSw, Bool.and_eq_true, Bool.or_eq_true, beq_iff_eq]
  exact h
/-- a switch keeps the sums -/
theorem swDo_same {m : Nat} {xs : List Int} {s : Sw} (hs : s ∈ swList m xs) : Same2 xs.length m (cellF (swDo m xs s)) (cellF xs) := by
  obtain ⟨⟨ha, hb, hc, hd⟩, hk⟩ := mem_swList.1 hs
  simp only [swOk, Bool.and_eq_true, beq_iff_eq, bne_iff_ne] at hk
  obtain ⟨⟨k1, k2⟩, k3⟩ := hk
  refine ⟨fun i hi => ?_, fun j hj => ?_⟩
  · by_cases hi2 : i = s.a ∨ i = s.b
    · have e1 : sumN m (fun j => b1 (cellF (swDo m xs s) i j)) = sumN m (fun j => b1 (if j = s.c then cellF xs i s.d else if j = s.d then cellF xs i s.c else cellF xs i j)) := by
        refine sumN_congr fun j hj => ?_
        rw [swDo_cell hi hj]
        by_cases h1 : j = s.c
        · subst h1
          rw [if_pos rfl, inSw_in ⟨hi2, .inl rfl⟩]
          congr 1
          rcases hi2 with rfl | rfl
          · revert k2; cases cellF xs s.a s.d <;> cases cellF xs s.a s.c <;> simp
          · rw [k1]; revert k3; cases cellF xs s.b s.c <;> cases cellF xs s.a s.c <;> simp
        · rw [if_neg h1]
          by_cases h2 : j = s.d
          · subst h2
            rw [if_pos rfl, inSw_in ⟨hi2, .inr rfl⟩]
            congr 1
            rcases hi2 with rfl | rfl
            · revert k2; cases cellF xs s.a s.d <;> cases cellF xs s.a s.c <;> simp
            · rw [k1]; revert k3; cases cellF xs s.b s.c <;> cases cellF xs s.a s.c <;> simp
          · rw [if_neg h2, inSw_out (by omega), Bool.xor_false]
      rw [e1]
      have h1 := sumN_one (n := m) (k := s.c) (F := fun j => b1 (if j = s.c then cellF xs i s.d else if j = s.d then cellF xs i s.c else cellF xs i j)) (G := fun j => b1 (if j = s.d then cellF xs i s.c else cellF xs i j)) (by omega)
        (fun j _ hne => by simp only [if_neg hne])
      have h2 := sumN_one (n := m) (k := s.d) (F := fun j => b1 (if j = s.d then cellF xs i s.c else cellF xs i j)) (G := fun j => b1 (cellF xs i j)) hd
        (fun j _ hne => by simp only [if_neg hne])
      simp only [if_true, if_neg (show ¬ s.c = s.d by omega)] at h1 h2
      omega
    · exact sumN_congr fun j hj => by rw [swDo_cell hi hj, inSw_out (by omega), Bool.xor_false]
  · by_cases hj2 : j = s.c ∨ j = s.d
    · have e1 : sumN xs.length (fun i => b1 (cellF (swDo m xs s) i j)) = sumN xs.length (fun i => b1 (if i = s.a then cellF xs s.b j else if i = s.b then cellF xs s.a j else cellF xs i j)) := by
        refine sumN_congr fun i hi => ?_
        rw [swDo_cell hi hj]
        by_cases h1 : i = s.a
        · subst h1
          rw [if_pos rfl, inSw_in ⟨.inl rfl, hj2⟩]
          congr 1
          rcases hj2 with rfl | rfl
          · revert k3; cases cellF xs s.b s.c <;> cases cellF xs s.a s.c <;> simp
          · rw [k1]; revert k2; cases cellF xs s.a s.d <;> cases cellF xs s.a s.c <;> simp
        · rw [if_neg h1]
          by_cases h2 : i = s.b
          · subst h2
            rw [if_pos rfl, inSw_in ⟨.inr rfl, hj2⟩]
            congr 1
            rcases hj2 with rfl | rfl
            · revert k3; cases cellF xs s.b s.c <;> cases cellF xs s.a s.c <;> simp
            · rw [k1]; revert k2; cases cellF xs s.a s.d <;> cases cellF xs s.a s.c <;> simp
          · rw [if_neg h2, inSw_out (by omega), Bool.xor_false]
      rw [e1]
      have h1 := sumN_one (n := xs.length) (k := s.a) (F := fun i => b1 (if i = s.a then cellF xs s.b j else if i = s.b then cellF xs s.a j else cellF xs i j)) (G := fun i => b1 (if i = s.b then cellF xs s.a j else cellF xs i j)) (by omega)
        (fun i _ hne => by simp only [if_neg hne])
      have h2 := sumN_one (n := xs.length) (k := s.b) (F := fun i => b1 (if i = s.b then cellF xs s.a j else cellF xs i j)) (G := fun i => b1 (cellF xs i j)) hb
        (fun i _ hne => by simp only [if_neg hne])
      simp only [if_true, if_neg (show ¬ s.a = s.b by omega)] at h1 h2
      omega
    · exact sumN_congr fun i hi => by rw [swDo_cell hi hj, inSw_out (by omega), Bool.xor_false]
theorem swDo_sums {m : Nat} {xs : List Int} (h : okB (m : Int) xs = true) {s : Sw} (hs : s ∈ swList m xs) : rSums (m : Int) (swDo m xs s) = rSums (m : Int) xs ∧ cSums (m : Int) (swDo m xs s) = cSums (m : Int) xs :=
  same2_to (swDo_ok2 h s) h (swDo_len _ _ _) (by rw [swDo_len]; exact swDo_same hs)
/-- the distance after a switch -/
theorem swDo_dist {m : Nat} {xs ys : List Int} {s : Sw} (hs : s.a < s.b ∧ s.b < xs.length ∧ s.c < s.d ∧ s.d < m) :
    dist2 xs.length m (cellF (swDo m xs s)) (cellF ys) + (b1 (cellF xs s.a s.c ^^ cellF ys s.a s.c) + b1 (cellF xs s.a s.d ^^ cellF ys s.a s.d) + b1 (cellF xs s.b s.c ^^ cellF ys s.b s.c) + b1 (cellF xs s.b s.d ^^ cellF ys s.b s.d)) =
      dist2 xs.length m (cellF xs) (cellF ys) + (b1 (!(cellF xs s.a s.c ^^ cellF ys s.a s.c)) + b1 (!(cellF xs s.a s.d ^^ cellF ys s.a s.d)) + b1 (!(cellF xs s.b s.c ^^ cellF ys s.b s.c)) + b1 (!(cellF xs s.b s.d ^^ cellF ys s.b s.d))) := by
  obtain ⟨ha, hb, hc, hd⟩ := hs
  have h := cnt2_four (h := xs.length) (m := m) (p := fun i j => cellF xs i j ^^ cellF ys i j) (q := fun i j => cellF (swDo m xs s) i j ^^ cellF ys i j) (a := s.a) (b := s.b) (c := s.c) (d := s.d) (by omega) hb (by omega) (by omega) hd (by omega)
    (fun i j hi hj hn => by rw [swDo_cell hi hj, inSw_out hn, Bool.xor_false])
  rw [swDo_cell (by omega) (by omega), swDo_cell (by omega) (by omega), swDo_cell (by omega) (by omega), swDo_cell (by omega) (by omega)] at h
  rw [inSw_in ⟨.inl rfl, .inl rfl⟩, inSw_in ⟨.inl rfl, .inr rfl⟩, inSw_in ⟨.inr rfl, .inl rfl⟩, inSw_in ⟨.inr rfl, .inr rfl⟩] at h
  have e : ∀ x y : Bool, ((x ^^ true) ^^ y) = !(x ^^ y) := by decide
  simp only [e] at h
  exact h
theorem b1_not (b : Bool) : b1 b + b1 (!b) = 1 := by cases b <;> rfl
/-- a distance that has changed has changed by two -/
theorem swDo_two {m : Nat} {xs ys : List Int} {s : Sw} (hs : s.a < s.b ∧ s.b < xs.length ∧ s.c < s.d ∧ s.d < m) (h1 : dist2 xs.length m (cellF (swDo m xs s)) (cellF ys) < dist2 xs.length m (cellF xs) (cellF ys)) :
    dist2 xs.length m (cellF (swDo m xs s)) (cellF ys) + 2 ≤ dist2 xs.length m (cellF xs) (cellF ys) := by
  have h := swDo_dist (ys := ys) hs
  have := b1_not (cellF xs s.a s.c ^^ cellF ys s.a s.c)
  have := b1_not (cellF xs s.a s.d ^^ cellF ys s.a s.d)
  have := b1_not (cellF xs s.b s.c ^^ cellF ys s.b s.c)
  have := b1_not (cellF xs s.b s.d ^^ cellF ys s.b s.d)
  omega
/-- the switch over two rows and two columns, in order -/
def mkSw (a b c d : Nat) : Sw := ⟨min a b, max a b, min c d, max c d⟩
theorem mkSw_mem {m : Nat} {xs : List Int} {a b c d : Nat} (ha : a < xs.length) (hb : b < xs.length) (hc : c < m) (hd : d < m) (hab : a ≠ b) (hcd : c ≠ d) (h1 : cellF xs a c = cellF xs b d) (h2 : cellF xs a d = cellF xs b c) (h3 : cellF xs a c ≠ cellF xs a d) :
    mkSw a b c d ∈ swList m xs := by
  refine mem_swList.2 ⟨⟨?_, ?_, ?_, ?_⟩, ?_⟩
  · simp only [mkSw]; omega
  · simp only [mkSw]; omega
  · simp only [mkSw]; omega
  · simp only [mkSw]; omega
  · rcases Nat.lt_or_ge a b with h4 | h4 <;> rcases Nat.lt_or_ge c d with h5 | h5
    all_goals
      simp only [mkSw, Nat.min_def, Nat.max_def, swOk]
      first
        | rw [if_pos (by omega), if_pos (by omega)]
        | skip
      simp only [show (a ≤ b) = (a < b) from propext (by omega), show (c ≤ d) = (c < d) from propext (by omega)]
      simp only [h4, h5, Nat.not_lt.2, if_true, if_false]
      revert h1 h2 h3
      cases cellF xs a c <;> cases cellF xs a d <;> cases cellF xs b c <;> cases cellF xs b d <;> simp
theorem mkSw_dist {m : Nat} {xs ys : List Int} {a b c d : Nat} (ha : a < xs.length) (hb : b < xs.length) (hc : c < m) (hd : d < m) (hab : a ≠ b) (hcd : c ≠ d) :
    dist2 xs.length m (cellF (swDo m xs (mkSw a b c d))) (cellF ys) + (b1 (cellF xs a c ^^ cellF ys a c) + b1 (cellF xs a d ^^ cellF ys a d) + b1 (cellF xs b c ^^ cellF ys b c) + b1 (cellF xs b d ^^ cellF ys b d)) =
      dist2 xs.length m (cellF xs) (cellF ys) + (b1 (!(cellF xs a c ^^ cellF ys a c)) + b1 (!(cellF xs a d ^^ cellF ys a d)) + b1 (!(cellF xs b c ^^ cellF ys b c)) + b1 (!(cellF xs b d ^^ cellF ys b d))) := by
  have h := swDo_dist (ys := ys) (m := m) (xs := xs) (s := mkSw a b c d) ⟨by simp only [mkSw]; omega, by simp only [mkSw]; omega, by simp only [mkSw]; omega, by simp only [mkSw]; omega⟩
  have e1 : (mkSw a b c d).a = min a b := rfl
  have e2 : (mkSw a b c d).b = max a b := rfl
  have e3 : (mkSw a b c d).c = min c d := rfl
  have e4 : (mkSw a b c d).d = max c d := rfl
  rw [e1, e2, e3, e4] at h
  rcases Nat.lt_or_ge a b with h4 | h4 <;> rcases Nat.lt_or_ge c d with h5 | h5
  · rw [Nat.min_eq_left (Nat.le_of_lt h4), Nat.max_eq_right (Nat.le_of_lt h4), Nat.min_eq_left (Nat.le_of_lt h5), Nat.max_eq_right (Nat.le_of_lt h5)] at h
    omega
  · rw [Nat.min_eq_left (Nat.le_of_lt h4), Nat.max_eq_right (Nat.le_of_lt h4), Nat.min_eq_right h5, Nat.max_eq_left h5] at h
    omega
  · rw [Nat.min_eq_right h4, Nat.max_eq_left h4, Nat.min_eq_left (Nat.le_of_lt h5), Nat.max_eq_right (Nat.le_of_lt h5)] at h
    omega
  · rw [Nat.min_eq_right h4, Nat.max_eq_left h4, Nat.min_eq_right h5, Nat.max_eq_left h5] at h
    omega
theorem ne_pos {m : Nat} {xs ys : List Int} (hx : okB (m : Int) xs = true) (hy : okB (m : Int) ys = true) (hl : xs.length = ys.length) (hne : xs ≠ ys) : 0 < dist2 xs.length m (cellF xs) (cellF ys) := by
  rcases Nat.eq_zero_or_pos (dist2 xs.length m (cellF xs) (cellF ys)) with h | h
  · exfalso
    apply hne
    rw [← img_self hx, ← img_self hy, hl]
    exact img_congr fun i hi j hj => dist2_zero h (by omega) hj
  · exact h
/-- of two different images with the same sums one has a switch toward the other -/
theorem toward {m : Nat} {xs ys : List Int} (hx : okB (m : Int) xs = true) (hy : okB (m : Int) ys = true) (hl : xs.length = ys.length) (hs : Same2 xs.length m (cellF xs) (cellF ys)) (hne : xs ≠ ys) :
    (∃ s ∈ swList m xs, dist2 xs.length m (cellF (swDo m xs s)) (cellF ys) < dist2 xs.length m (cellF xs) (cellF ys)) ∨
    (∃ s ∈ swList m ys, dist2 ys.length m (cellF (swDo m ys s)) (cellF xs) < dist2 ys.length m (cellF ys) (cellF xs)) := by
  have hd := ne_pos hx hy hl hne
  obtain ⟨a, c, ha, hc, hf, hg⟩ := diff_cell hs hd
  obtain ⟨a, b, c, d, ha, hb, hc, hd', h1, h2, h3, h4, h5, h6, h7⟩ := good_four hs _ a c ha hc hf hg (Nat.le_refl _)
  have hab : a ≠ b := by rintro rfl; rw [h3] at h5; cases h5
  have hcd : c ≠ d := by rintro rfl; rw [h1] at h3; cases h3
  cases h8 : cellF xs b c with
  | false =>
    refine .inl ⟨mkSw a b c d, mkSw_mem ha hb hc hd' hab hcd (by rw [h1, h5]) (by rw [h3, h8]) (by rw [h1, h3]; simp), ?_⟩
    have h := mkSw_dist (ys := ys) ha hb hc hd' hab hcd
    rw [h1, h2, h3, h4, h5, h6, h8] at h
    have := b1_not (false ^^ cellF ys b c)
    simp only [Bool.xor_false, Bool.xor_true, Bool.not_false, Bool.not_true, b1, if_true, Bool.false_eq_true, if_false] at h this
    omega
  | true =>
    have h9 : cellF ys b c = true := by
      cases h9 : cellF ys b c with
      | true => rfl
      | false => exact absurd ⟨h8, h9⟩ h7
    refine .inr ⟨mkSw a b c d, mkSw_mem (by omega) (by omega) hc hd' hab hcd (by rw [h2, h6]) (by rw [h4, h9]) (by rw [h2, h4]; simp), ?_⟩
    have h := mkSw_dist (xs := ys) (ys := xs) (by omega) (by omega) hc hd' hab hcd
    rw [h1, h2, h3, h4, h5, h6, h8, h9] at h
    simp only [Bool.xor_false, Bool.xor_true, Bool.not_false, Bool.not_true, b1, if_true, Bool.false_eq_true, if_false] at h
    omega
/-- between images with the same sums there is a way, and a short one -/
theorem way {m : Nat} : ∀ (N : Nat) {xs ys : List Int}, okB (m : Int) xs = true → okB (m : Int) ys = true → xs.length = ys.length → Same2 xs.length m (cellF xs) (cellF ys) → dist2 xs.length m (cellF xs) (cellF ys) ≤ N →
    ∃ n, Path m xs ys n ∧ (xs = ys ∧ n = 0 ∨ 2 * n + 2 ≤ dist2 xs.length m (cellF xs) (cellF ys)) := by
  intro N
  induction N with
  | zero =>
    intro xs ys hx hy hl _ hN
    rcases Classical.em (xs = ys) with h | h
    · subst h; exact ⟨0, .nil, .inl ⟨rfl, rfl⟩⟩
    · have := ne_pos hx hy hl h; omega
  | succ N ih =>
    intro xs ys hx hy hl hs hN
    rcases Classical.em (xs = ys) with h | h
    · subst h; exact ⟨0, .nil, .inl ⟨rfl, rfl⟩⟩
    have h4 := dist2_four hs (ne_pos hx hy hl h)
    rcases toward hx hy hl hs h with ⟨s, h1, h2⟩ | ⟨s, h1, h2⟩
    · have h3 := swDo_two (mem_swList.1 h1).1 h2
      have hz : swDo m xs s ∈ nbrs m xs := List.mem_map.2 ⟨s, h1, rfl⟩
      have hS : Same2 (swDo m xs s).length m (cellF (swDo m xs s)) (cellF ys) := by
        rw [swDo_len]
        exact ⟨fun i hi => ((swDo_same h1).1 i hi).trans (hs.1 i hi), fun j hj => ((swDo_same h1).2 j hj).trans (hs.2 j hj)⟩
      obtain ⟨n, hp, hn⟩ := ih (swDo_ok2 hx s) hy (by rw [swDo_len]; exact hl) hS (by rw [swDo_len]; omega)
      rw [swDo_len] at hn
      refine ⟨n + 1, Path.head hz hp, .inr ?_⟩
      rcases hn with ⟨_, rfl⟩ | hn <;> omega
    · have h3 := swDo_two (mem_swList.1 h1).1 h2
      have hz : swDo m ys s ∈ nbrs m ys := List.mem_map.2 ⟨s, h1, rfl⟩
      have hS : Same2 xs.length m (cellF xs) (cellF (swDo m ys s)) :=
        ⟨fun i hi => (hs.1 i hi).trans ((swDo_same h1).1 i (by omega)).symm, fun j hj => (hs.2 j hj).trans (by rw [hl]; exact ((swDo_same h1).2 j hj).symm)⟩
      have e1 : dist2 xs.length m (cellF xs) (cellF (swDo m ys s)) = dist2 ys.length m (cellF (swDo m ys s)) (cellF xs) := by rw [hl]; exact dist2_symm _ _ _ _
      have e2 : dist2 xs.length m (cellF xs) (cellF ys) = dist2 ys.length m (cellF ys) (cellF xs) := by rw [hl]; exact dist2_symm _ _ _ _
      obtain ⟨n, hp, hn⟩ := ih hx (swDo_ok2 hy s) (by rw [swDo_len]; exact hl) hS (by omega)
      refine ⟨n + 1, .step hp (nbrs_back hy hz), .inr ?_⟩
      rcases hn with ⟨_, rfl⟩ | hn <;> omega
end Go.Proofs.YtpeiolimdglmhaaGreatDoor

-- Walks: the sums of two images compared; their distance.
namespace Go.Proofs.YtpeiolimdglmhaaGreatDoor
open Go.RowKit
set_option maxRecDepth 100000

end Go.Proofs.YtpeiolimdglmhaaGreatDoor

-- Walks: the sums of two images compared; their distance (2).
namespace Go.Proofs.YtpeiolimdglmhaaGreatDoor
open Go.RowKit
set_option maxRecDepth 100000

end Go.Proofs.YtpeiolimdglmhaaGreatDoor

-- Walks: the distance of two images.
namespace Go.Proofs.YtpeiolimdglmhaaGreatDoor
open Go.RowKit
set_option maxRecDepth 100000

end Go.Proofs.YtpeiolimdglmhaaGreatDoor

-- Walks: the list of an image's switches.
namespace Go.Proofs.YtpeiolimdglmhaaGreatDoor
open Go.RowKit Go.Shelf
attribute [local go_sem] Oper.semAt_some
set_option maxRecDepth 100000

theorem BufW.ownF {W W' : World} {lo c : Nat} {A : Option Addr} {ss : List Sw} {row : Option Nat} (h : BufW W lo A c ss) (hg : W.grownBy W' row) (hr : ∀ r, row = some r → ∃ o : Obj, W.heap[r]? = some o ∧ o.isCells = false) : BufW W' lo A c ss := by
  refine h.kept hg ?_
  rintro g rfl e
  rcases h.form with ⟨e', _⟩ | ⟨g', cs, e', _, hb, _⟩
  · cases e'
  · cases e'
    exact hb.cells_ne (hr g e) rfl
theorem rowAW_ne {w : World} {base c o : Nat} {A : Option Addr} {ss : List Sw} (h : BufW w base A c ss) (ho : o < base) : some o ≠ rowA A := by
  intro e
  have := h.row o e.symm
  omega
theorem rowAW_cells {w : World} {base c : Nat} {A : Option Addr} {ss : List Sw} (h : BufW w base A c ss) : ∀ g, rowA A = some g → ∃ t cs, Blk w g t cs := by
  intro g hg
  rcases h.form with ⟨rfl, _⟩ | ⟨g', cs, rfl, _, hb, _⟩
  · simp [rowA] at hg
  · simp [rowA] at hg
    subst hg
    exact ⟨_, _, hb⟩

/-- the list so far, in the box o -/
def LInv (W : World) (o base : Nat) (ss : List Sw) : Prop := ∃ R c', Blk W o 143 #[.slice R ss.length c'] ∧ BufW W base R c' ss

theorem LInv.step {W W3 : World} {o base gB cB c' : Nat} {R : Option Addr} {ss : List Sw} {x : Sw} {bx : Obj} (hO : Blk W o 143 #[.slice R ss.length c']) (hB : BufW W base R c' ss) (ho : o < base) (hbW : base ≤ W.heap.size)
    (hB3 : BufW W3 base (some ⟨gB, 0, none⟩) cB (ss ++ [x])) (hg3 : (W.alloc bx).grownBy W3 (rowA R)) :
    LInv (W3.setCell ⟨o, 0, none⟩ (.slice (some ⟨gB, 0, none⟩) (ss.length + 1) cB)) o base (ss ++ [x]) ∧ KeepsOthers W (W3.setCell ⟨o, 0, none⟩ (.slice (some ⟨gB, 0, none⟩) (ss.length + 1) cB)) ∧
      (∀ b, b < base → b ≠ o → KB b W (W3.setCell ⟨o, 0, none⟩ (.slice (some ⟨gB, 0, none⟩) (ss.length + 1) cB))) ∧ W.heap.size ≤ (W3.setCell ⟨o, 0, none⟩ (.slice (some ⟨gB, 0, none⟩) (ss.length + 1) cB)).heap.size ∧
      (∀ {a : World}, Below a.heap.size a W → a.heap.size ≤ o → Below a.heap.size a (W3.setCell ⟨o, 0, none⟩ (.slice (some ⟨gB, 0, none⟩) (ss.length + 1) cB))) := by
  have hbx := lo_alloc (Below.refl W.heap.size W) bx
  have hBx := hB.next hbx
  have hz2 := hbx.size
  have hO3 := (hO.next hbx).grown hg3 (rowAW_ne hB ho)
  have hrow : ∀ g, rowA R = some g → base ≤ g := fun g h => (hB.row g h).1
  refine ⟨⟨some ⟨gB, 0, none⟩, cB, ?_, ?_⟩, ?_, ?_, ?_, ?_⟩
  · have := hO3.set_ 0 (.slice (some ⟨gB, 0, none⟩) (ss.length + 1) cB)
    simpa using this
  · exact hB3.kept (grown_set (g := o) (k := 0) _) (by rintro g ⟨⟩ e; injection e with e; have := (hB3.lt _ rfl).1; omega)
  · have h1 : KeepsOthers W (W.alloc bx) := keeps_below hbx
    have h2 : KeepsOthers (W.alloc bx) W3 := keepsO_grown hg3 (rowAW_cells hBx)
    have h3 : KeepsOthers W3 (W3.setCell ⟨o, 0, none⟩ (.slice (some ⟨gB, 0, none⟩) (ss.length + 1) cB)) := keepsO_grown (grown_set (g := o) (k := 0) _) (by rintro g ⟨⟩; exact ⟨_, _, hO3⟩)
    exact (h1.trans h2).trans h3
  · intro b hb hne
    have h1 : KB b W (W.alloc bx) := KB.of_below hbx (by omega)
    have h2 : KB b (W.alloc bx) W3 := KB.of_grown hg3 (by omega) (fun e => by have := hrow b e; omega)
    exact h1.trans (h2.trans (Below.heap_setCell _ _ _ _ (by simpa using hne)))
  · rw [size_setCell]
    exact Nat.le_trans hz2 hg3.size
  · intro a hB hao
    exact lo_set (lo_grown (lo_trans hB hbx) hg3 (fun g hg => by have := hrow g hg; omega)) (p := ⟨o, 0, none⟩) hao _

end Go.Proofs.YtpeiolimdglmhaaGreatDoor

-- Plain: the neighbors are different, have the same sums, and differ in four cells.
namespace Go.Proofs.YtpeiolimdglmhaaGreatDoor

end Go.Proofs.YtpeiolimdglmhaaGreatDoor

-- Walks: the nested image is built; how many images have given row sums.
namespace Go.Proofs.YtpeiolimdglmhaaGreatDoor
open Go.RowKit
set_option maxRecDepth 100000

end Go.Proofs.YtpeiolimdglmhaaGreatDoor

-- Plain: no more images are reached than there are images with the row sums.
namespace Go.Proofs.YtpeiolimdglmhaaGreatDoor

theorem rSums_in {m : Nat} {xs : List Int} (h : okB (m : Int) xs = true) : sIn (m : Int) (rSums (m : Int) xs) = true := by
  have hb := okB_bd h
  have e : rSums (m : Int) xs = rsum xs := by simp [rSums, h]
  rw [e]
  refine sIn_yes (by simp [rsum]; omega) (by simp [rsum]; omega) (allIn_of fun k hk => ?_)
  have hk' : k < xs.length := by simpa [rsum] using hk
  obtain ⟨r, h1, h2⟩ := okB_cell h hk'
  simp only [List.getElem?_eq_getElem hk', Option.getD_some] at h1
  have h3 : pop r ≤ m := by
    rw [pop_sumN (by omega) h2]
    have := sumN_le_mul (n := m) (c := 1) (F := fun j => b1 (r.testBit j)) (fun j _ => b1_le _)
    omega
  simp only [rsum, List.getElem?_map, List.getElem?_eq_getElem hk', Option.map_some, Option.getD_some, h1, Int.toNat_natCast]
  omega
end Go.Proofs.YtpeiolimdglmhaaGreatDoor

-- Plain mathematics: all images with given sums, row by row in ascending order.
namespace Go.Proofs.YtpeiolimdglmhaaGreatDoor

/-- a row has only cells that are still to come, and all those that must come -/
def fitB (row : Nat) (lf : List Int) (k : Int) : Bool := (List.range lf.length).all (fun j => if row.testBit j then decide (lf[j]?.getD 0 ≠ 0) else decide (lf[j]?.getD 0 ≠ k))
def takeL (row : Nat) (lf : List Int) : List Int := (List.range lf.length).map (fun j => lf[j]?.getD 0 - (b1 (row.testBit j) : Nat))
def giveL (row : Nat) (lf : List Int) : List Int := (List.range lf.length).map (fun j => lf[j]?.getD 0 + (b1 (row.testBit j) : Nat))
theorem takeL_len (row : Nat) (lf : List Int) : (takeL row lf).length = lf.length := by simp [takeL]
theorem takeL_get {row : Nat} {lf : List Int} {j : Nat} (hj : j < lf.length) : (takeL row lf)[j]?.getD 0 = lf[j]?.getD 0 - (b1 (row.testBit j) : Nat) := by
  simp [takeL, List.getElem?_map, List.getElem?_range hj]
theorem give_take (row : Nat) (lf : List Int) : giveL row (takeL row lf) = lf := by
  apply List.ext_getElem
  · simp [giveL, takeL]
  · intro j h1 h2
    have h3 := takeL_get (row := row) h2
    simp only [giveL, List.getElem_map, List.getElem_range, h3]
    rw [List.getElem?_eq_getElem h2, Option.getD_some]
    omega
/-- the images with these row sums and these column sums, in ascending order -/
def imgL : List Int → List Int → List (List Int)
  | [], lf => if 0 < lf.sum then [] else [[]]
  | r :: rs, lf => (List.range (2 ^ lf.length)).flatMap (fun row => if ((pop row : Nat) : Int) = r ∧ fitB row lf ((rs.length + 1 : Nat) : Int) = true then (imgL rs (takeL row lf)).map (fun x => (row : Int) :: x) else [])
/-- those whose first row is less than k -/
def imgK (r : Int) (rs lf : List Int) (k : Nat) : List (List Int) := (List.range k).flatMap (fun row => if ((pop row : Nat) : Int) = r ∧ fitB row lf ((rs.length + 1 : Nat) : Int) = true then (imgL rs (takeL row lf)).map (fun x => (row : Int) :: x) else [])
theorem imgK_zero (r : Int) (rs lf : List Int) : imgK r rs lf 0 = [] := rfl
theorem imgK_all (r : Int) (rs lf : List Int) : imgK r rs lf (2 ^ lf.length) = imgL (r :: rs) lf := rfl
theorem imgK_hit {r : Int} {rs lf : List Int} {k : Nat} (h1 : ((pop k : Nat) : Int) = r) (h2 : fitB k lf ((rs.length + 1 : Nat) : Int) = true) : imgK r rs lf (k + 1) = imgK r rs lf k ++ (imgL rs (takeL k lf)).map (fun x => (k : Int) :: x) := by
  rw [imgK, List.range_succ, List.flatMap_append]
  simp only [List.flatMap_cons, List.flatMap_nil, if_pos (And.intro h1 h2), List.append_nil]
  rfl
theorem imgK_miss {r : Int} {rs lf : List Int} {k : Nat} (h : ¬ (((pop k : Nat) : Int) = r ∧ fitB k lf ((rs.length + 1 : Nat) : Int) = true)) : imgK r rs lf (k + 1) = imgK r rs lf k := by
  rw [imgK, List.range_succ, List.flatMap_append]
  simp only [List.flatMap_cons, List.flatMap_nil, if_neg h, List.append_nil]
  rfl
theorem fitB_iff {row : Nat} {lf : List Int} {k : Int} : fitB row lf k = true ↔ ∀ j, j < lf.length → (row.testBit j = true → lf[j]?.getD 0 ≠ 0) ∧ (row.testBit j = false → lf[j]?.getD 0 ≠ k) := by
  simp only [fitB, List.all_eq_true, List.mem_range]
  constructor
  · intro h j hj
    have := h j hj
    cases hb : row.testBit j <;> rw [hb] at this <;> simp at this <;> simp [this]
  · intro h j hj
    have := h j hj
    cases hb : row.testBit j <;> rw [hb] at this <;> simp at this <;> simp [this]
theorem ccnt_cons (a : Int) (l : List Int) (j : Nat) : ccnt (a :: l) j = ccnt l j + b1 (a.toNat.testBit j) := by
  rw [ccnt, List.countP_cons, ccnt, b1]
theorem sum_zero : ∀ {l : List Int}, (∀ j, j < l.length → l[j]?.getD 0 = 0) → l.sum = 0
  | [], _ => rfl
  | a :: l, h => by
    have h0 := h 0 (by simp)
    simp at h0
    rw [List.sum_cons, h0, sum_zero (fun j hj => by have := h (j + 1) (by simp; omega); simpa using this)]
    rfl
theorem imgL_mem : ∀ (rs lf x : List Int), (∀ j, j < lf.length → 0 ≤ lf[j]?.getD 0 ∧ lf[j]?.getD 0 ≤ rs.length) →
    (x ∈ imgL rs lf ↔ x.length = rs.length ∧ (∀ i, i < rs.length → ∃ r : Nat, x[i]?.getD 0 = (r : Int) ∧ r < 2 ^ lf.length ∧ ((pop r : Nat) : Int) = rs[i]?.getD 0) ∧ ∀ j, j < lf.length → ((ccnt x j : Nat) : Int) = lf[j]?.getD 0)
  | [], lf, x, hb => by
    have h0 : lf.sum = 0 := sum_zero (fun j hj => by have := hb j hj; simp at this; omega)
    rw [imgL, h0, if_neg (by omega), List.mem_singleton]
    constructor
    · rintro rfl
      refine ⟨rfl, fun i hi => absurd hi (by simp), fun j hj => ?_⟩
      have := hb j hj
      simp [ccnt] at this ⊢
      omega
    · rintro ⟨h, _, _⟩
      exact List.length_eq_zero_iff.1 h
  | r :: rs, lf, x, hb => by
    have hb2 : ∀ row : Nat, fitB row lf ((rs.length + 1 : Nat) : Int) = true → ∀ j, j < (takeL row lf).length → 0 ≤ (takeL row lf)[j]?.getD 0 ∧ (takeL row lf)[j]?.getD 0 ≤ rs.length := by
      intro row hf j hj
      rw [takeL_len] at hj
      rw [takeL_get hj]
      have h1 := hb j hj
      have h2 := fitB_iff.1 hf j hj
      rw [List.length_cons] at h1
      cases hbit : row.testBit j with
      | true => have := h2.1 hbit; simp [b1]; omega
      | false => have := h2.2 hbit; simp [b1]; omega
    rw [imgL, List.mem_flatMap]
    constructor
    · rintro ⟨row, hrow, hx⟩
      rw [List.mem_range] at hrow
      split at hx
      case isFalse => cases hx
      rename_i hc
      obtain ⟨y, hy, rfl⟩ := List.mem_map.1 hx
      have ih := (imgL_mem rs (takeL row lf) y (hb2 row hc.2)).1 hy
      rw [takeL_len] at ih
      refine ⟨by simp [ih.1], ?_, ?_⟩
      · intro i hi
        cases i with
        | zero => exact ⟨row, by simp, hrow, by simpa using hc.1⟩
        | succ i =>
          obtain ⟨r', h1, h2, h3⟩ := ih.2.1 i (by simpa using hi)
          exact ⟨r', by simpa using h1, h2, by simpa using h3⟩
      · intro j hj
        have h1 := ih.2.2 j hj
        rw [takeL_get hj] at h1
        rw [ccnt_cons, Int.toNat_natCast]
        omega
    · rintro ⟨h1, h2, h3⟩
      cases x with
      | nil => simp at h1
      | cons a y =>
        obtain ⟨row, e1, e2, e3⟩ := h2 0 (by simp)
        simp at e1 e3
        subst e1
        have hyl : y.length = rs.length := by simpa using h1
        have hcc : ∀ j, j < lf.length → ((ccnt y j : Nat) : Int) + (b1 (row.testBit j) : Nat) = lf[j]?.getD 0 := by
          intro j hj
          have := h3 j hj
          rw [ccnt_cons, Int.toNat_natCast] at this
          omega
        have hf : fitB row lf ((rs.length + 1 : Nat) : Int) = true := by
          refine fitB_iff.2 (fun j hj => ?_)
          have h4 := hcc j hj
          have h5 := ccnt_le y j
          constructor
          · intro hb'
            rw [hb'] at h4
            simp [b1] at h4
            omega
          · intro hb'
            rw [hb'] at h4
            simp [b1] at h4
            omega
        refine ⟨row, List.mem_range.2 e2, ?_⟩
        rw [if_pos ⟨e3, hf⟩]
        refine List.mem_map.2 ⟨y, (imgL_mem rs (takeL row lf) y (hb2 row hf)).2 ⟨hyl, ?_, ?_⟩, rfl⟩
        · intro i hi
          obtain ⟨r', g1, g2, g3⟩ := h2 (i + 1) (by simp; omega)
          rw [takeL_len]
          exact ⟨r', by simpa using g1, g2, by simpa using g3⟩
        · intro j hj
          rw [takeL_len] at hj
          rw [takeL_get hj]
          have := hcc j hj
          omega
/-- the sums of a valid image: whoever has them is one of those listed -/
theorem imgL_sums {m : Nat} {xs : List Int} (hx : okB (m : Int) xs = true) (y : List Int) : y ∈ imgL (rsum xs) (csum m xs) ↔ y.length = xs.length ∧ okB (m : Int) y = true ∧ rsum y = rsum xs ∧ csum m y = csum m xs := by
  have hbd := okB_bd hx
  have hcl : (csum m xs).length = m := by simp [csum]
  have hrl : (rsum xs).length = xs.length := by simp [rsum]
  have hcv : ∀ {z : List Int} {j : Nat}, j < m → (csum m z)[j]?.getD 0 = ((ccnt z j : Nat) : Int) := fun {z j} hj => by simp [csum, List.getElem?_map, List.getElem?_range hj]
  have hrv : ∀ {z : List Int} {i : Nat}, i < z.length → (rsum z)[i]?.getD 0 = ((pop (z[i]?.getD 0).toNat : Nat) : Int) := fun {z i} hi => by simp [rsum, List.getElem?_map, List.getElem?_eq_getElem hi]
  rw [imgL_mem (rsum xs) (csum m xs) y (fun j hj => by
    rw [hcl] at hj
    rw [hcv hj, hrl]
    have := ccnt_le xs j
    omega), hcl, hrl]
  constructor
  · rintro ⟨h1, h2, h3⟩
    refine ⟨h1, ?_, ?_, ?_⟩
    · rw [okB_eq (by omega)]
      refine allIn_of (fun k hk => ?_)
      obtain ⟨r, e1, e2, _⟩ := h2 k (by omega)
      rw [e1, Int.toNat_natCast]
      have : ((2 ^ m : Nat) : Int) = (2 : Int) ^ m := by simp
      omega
    · apply List.ext_getElem
      · simp [rsum, h1]
      · intro i g1 g2
        have hi : i < xs.length := by simpa [rsum] using g2
        obtain ⟨r, e1, e2, e3⟩ := h2 i hi
        have e4 := hrv (z := y) (i := i) (by omega)
        rw [e1, Int.toNat_natCast, e3] at e4
        rw [List.getElem?_eq_getElem g1, List.getElem?_eq_getElem g2] at e4
        exact e4
    · apply List.ext_getElem
      · simp [csum]
      · intro j g1 g2
        have hj : j < m := by simpa [csum] using g2
        have e4 := h3 j hj
        rw [← hcv hj, List.getElem?_eq_getElem g1, List.getElem?_eq_getElem g2] at e4
        exact e4
  · rintro ⟨h1, h2, h3, h4⟩
    refine ⟨h1, fun i hi => ?_, fun j hj => ?_⟩
    · obtain ⟨r, e1, e2⟩ := okB_cell h2 (i := i) (by omega)
      refine ⟨r, e1, e2, ?_⟩
      have := hrv (z := y) (i := i) (by omega)
      rw [e1, Int.toNat_natCast, h3] at this
      exact this.symm
    · rw [← h4, hcv hj]
end Go.Proofs.YtpeiolimdglmhaaGreatDoor

-- Plain mathematics: the image that is built column by column has the sums that it is built of, if any image has.
namespace Go.Proofs.YtpeiolimdglmhaaGreatDoor

/-- what is left of the row sums after j columns -/
def leftL (h : Nat) (xs ys : List Int) : Nat → List Int
  | 0 => xs
  | j + 1 => (List.range h).map (fun i : Nat => (leftL h xs ys j)[i]?.getD 0 - ((b1 (decide (plc (ordL (leftL h xs ys j)) (i : Int) < (ys[j]?.getD 0).toNat)) : Nat) : Int))
/-- the cells that are set -/
def bldF (h : Nat) (xs ys : List Int) (i j : Nat) : Bool := decide (plc (ordL (leftL h xs ys j)) (i : Int) < (ys[j]?.getD 0).toNat)
theorem leftL_len {h : Nat} {xs : List Int} (ys : List Int) (hx : xs.length = h) : ∀ j, (leftL h xs ys j).length = h
  | 0 => hx
  | j + 1 => by simp [leftL]
theorem leftL_at {h : Nat} (xs ys : List Int) {i : Nat} (hi : i < h) (j : Nat) : (leftL h xs ys (j + 1))[i]?.getD 0 = (leftL h xs ys j)[i]?.getD 0 - ((b1 (bldF h xs ys i j) : Nat) : Int) := by
  simp [leftL, bldF, List.getElem?_map, List.getElem?_range hi]
/-- what is built -/
def bldW (xs ys : List Int) : Int := if consB xs ys then ys.length else 0
def bldX (xs ys : List Int) : List Int := if consB xs ys then img (bldF xs.length xs ys) xs.length ys.length else []
end Go.Proofs.YtpeiolimdglmhaaGreatDoor

-- Plain mathematics: the rank of an image among those with its sums, counted row by row; the image with a rank, chosen row by row.
namespace Go.Proofs.YtpeiolimdglmhaaGreatDoor

/-- a row can be taken from what is still to come -/
def takeOk (row : Nat) (lf : List Int) : Bool := (takeL row lf).all (fun x => decide (0 ≤ x))
theorem takeOk_iff {row : Nat} {lf : List Int} : takeOk row lf = true ↔ ∀ x ∈ takeL row lf, 0 ≤ x := by
  simp [takeOk, List.all_eq_true]
theorem getD_mem {l : List Int} {j : Nat} (h : j < l.length) : l[j]?.getD 0 ∈ l := by
  rw [List.getElem?_eq_getElem h, Option.getD_some]
  exact List.getElem_mem h
theorem all_getD {l : List Int} {p : Int → Prop} : (∀ x ∈ l, p x) ↔ ∀ j, j < l.length → p (l[j]?.getD 0) := by
  constructor
  · exact fun h j hj => h _ (getD_mem hj)
  · intro h x hx
    obtain ⟨j, hj, rfl⟩ := List.mem_iff_getElem.1 hx
    have := h j hj
    rwa [List.getElem?_eq_getElem hj, Option.getD_some] at this
theorem fit_take {row : Nat} {lf : List Int} {k : Int} (h0 : ∀ x ∈ lf, 0 ≤ x) (hf : fitB row lf k = true) : takeOk row lf = true := by
  rw [takeOk_iff, all_getD]
  intro j hj
  rw [takeL_len] at hj
  rw [takeL_get hj]
  have h1 := h0 _ (getD_mem hj)
  cases hb : row.testBit j with
  | true =>
    have := ((fitB_iff.1 hf) j hj).1 hb
    simp only [b1, if_true]
    omega
  | false => simp only [b1]; simp; omega
theorem sum_pos {l : List Int} (h0 : ∀ x ∈ l, 0 ≤ x) {j : Nat} (hj : j < l.length) (h : 0 < l[j]?.getD 0) : 0 < l.sum := by
  induction l generalizing j with
  | nil => simp at hj
  | cons a l ih =>
    have ha := h0 a (List.mem_cons_self ..)
    have hl : ∀ x ∈ l, 0 ≤ x := fun x hx => h0 x (List.mem_cons_of_mem _ hx)
    have hs : 0 ≤ l.sum := by
      clear ih hj h h0
      induction l with
      | nil => simp
      | cons b l ih =>
        have h1 := hl b (List.mem_cons_self ..)
        have h2 := ih (fun x hx => hl x (List.mem_cons_of_mem _ hx))
        rw [List.sum_cons]; omega
    rw [List.sum_cons]
    cases j with
    | zero => simp at h; omega
    | succ j =>
      have := ih hl (j := j) (by simpa using hj) (by simpa using h)
      omega
/-- a column with more cells to come than there are rows: no image -/
theorem img_over : ∀ (rs lf : List Int), (∀ x ∈ lf, 0 ≤ x) → ∀ j, j < lf.length → (rs.length : Int) < lf[j]?.getD 0 → imgL rs lf = []
  | [], lf, h0, j, hj, h => by
    rw [imgL, if_pos (sum_pos h0 hj (by simpa using h))]
  | r :: rs, lf, h0, j, hj, h => by
    rw [imgL, List.flatMap_eq_nil_iff]
    intro row _
    split
    · next hh =>
      have h1 := takeOk_iff.1 (fit_take h0 hh.2)
      rw [img_over rs (takeL row lf) h1 j (by rw [takeL_len]; exact hj) (by
        rw [takeL_get hj]
        have := b1_le (row.testBit j)
        rw [List.length_cons] at h
        omega)]
      rfl
    · rfl
/-- the ways to fill rows -/
def wayN : List Int → List Int → Nat
  | [], lf => if lf.sum = 0 then 1 else 0
  | r :: rs, lf => ((List.range (2 ^ lf.length)).map (fun row => if ((pop row : Nat) : Int) = r ∧ takeOk row lf = true then wayN rs (takeL row lf) else 0)).sum
def wayK (r : Int) (rs lf : List Int) (k : Nat) : Nat := ((List.range k).map (fun row => if ((pop row : Nat) : Int) = r ∧ takeOk row lf = true then wayN rs (takeL row lf) else 0)).sum
theorem wayK_all (r : Int) (rs lf : List Int) : wayK r rs lf (2 ^ lf.length) = wayN (r :: rs) lf := rfl
theorem wayK_hit {r : Int} {rs lf : List Int} {k : Nat} (h1 : ((pop k : Nat) : Int) = r) (h2 : takeOk k lf = true) : wayK r rs lf (k + 1) = wayK r rs lf k + wayN rs (takeL k lf) := by
  rw [wayK, List.range_succ, List.map_append, List.sum_append]
  simp only [List.map_cons, List.map_nil, List.sum_cons, List.sum_nil, if_pos (And.intro h1 h2)]
  rfl
theorem wayK_miss {r : Int} {rs lf : List Int} {k : Nat} (h : ¬ (((pop k : Nat) : Int) = r ∧ takeOk k lf = true)) : wayK r rs lf (k + 1) = wayK r rs lf k := by
  rw [wayK, List.range_succ, List.map_append, List.sum_append]
  simp only [List.map_cons, List.map_nil, List.sum_cons, List.sum_nil, if_neg h]
  rfl
theorem sum_nonneg_zero {l : List Int} (h0 : ∀ x ∈ l, 0 ≤ x) : 0 ≤ l.sum := by
  induction l with
  | nil => simp
  | cons b l ih =>
    have h1 := h0 b (List.mem_cons_self ..)
    have h2 := ih (fun x hx => h0 x (List.mem_cons_of_mem _ hx))
    rw [List.sum_cons]; omega
mutual
theorem wayN_img : ∀ (rs lf : List Int), (∀ x ∈ lf, 0 ≤ x) → wayN rs lf = (imgL rs lf).length
  | [], lf, h0 => by
    have := sum_nonneg_zero h0
    rw [wayN, imgL]
    split <;> split <;> first | rfl | omega
  | r :: rs, lf, h0 => by
    rw [← wayK_all, ← imgK_all]
    exact wayK_img r rs lf h0 _
theorem wayK_img (r : Int) (rs lf : List Int) (h0 : ∀ x ∈ lf, 0 ≤ x) : ∀ k, wayK r rs lf k = (imgK r rs lf k).length
  | 0 => rfl
  | k + 1 => by
    have ih := wayK_img r rs lf h0 k
    by_cases hp : ((pop k : Nat) : Int) = r
    · by_cases hf : fitB k lf ((rs.length + 1 : Nat) : Int) = true
      · have ht := fit_take h0 hf
        rw [wayK_hit hp ht, imgK_hit hp hf, List.length_append, List.length_map, ih, wayN_img rs (takeL k lf) (takeOk_iff.1 ht)]
      · rw [imgK_miss (fun h => hf h.2)]
        by_cases ht : takeOk k lf = true
        · rw [wayK_hit hp ht, ih, wayN_img rs (takeL k lf) (takeOk_iff.1 ht)]
          obtain ⟨j, hj, hb, he⟩ : ∃ j, j < lf.length ∧ k.testBit j = false ∧ lf[j]?.getD 0 = ((rs.length + 1 : Nat) : Int) := by
            apply Classical.byContradiction
            intro hno
            refine hf (fitB_iff.2 fun j hj => ⟨fun hb => ?_, fun hb he => hno ⟨j, hj, hb, he⟩⟩)
            have h1 := all_getD.1 (takeOk_iff.1 ht) j (by rw [takeL_len]; exact hj)
            rw [takeL_get hj, hb] at h1
            simp only [b1, if_true] at h1
            omega
          rw [img_over rs (takeL k lf) (takeOk_iff.1 ht) j (by rw [takeL_len]; exact hj) (by
            rw [takeL_get hj, hb, he]
            simp only [b1]
            simp
            omega)]
          rfl
        · rw [wayK_miss (fun h => ht h.2), ih]
    · rw [wayK_miss (fun h => hp h.1), imgK_miss (fun h => hp h.1), ih]
end
theorem idx_lt {L : List (List Int)} {x : List Int} (h : x ∈ L) : L.idxOf x < L.length := List.idxOf_lt_length_of_mem h
end Go.Proofs.YtpeiolimdglmhaaGreatDoor
