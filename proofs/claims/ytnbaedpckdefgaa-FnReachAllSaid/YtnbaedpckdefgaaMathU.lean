
/- Plain mathematics: images with the same sums; their distance; a way of switches between them. -/
import Derived.Test.YtnbaedpckdefgaaKa
import Derived.Test.YtnbaedpckdefgaaKf
namespace Go.Proofs.Ytnbaedpckdefgaa

/-- the number of different cells -/
def distX (xs ys : List Int) : Nat := sumN xs.length (fun i => pop ((xs[i]?.getD 0).toNat ^^^ (ys[i]?.getD 0).toNat))
theorem pop_sum (r : Nat) : pop r = sumN 6 (fun j => b1 (r.testBit j)) := by
  simp [pop, sumN, b1, List.range_succ, List.countP_cons]
  omega
theorem pop_sumN {m r : Nat} (hm : m ≤ 6) (h : r < 2 ^ m) : pop r = sumN m (fun j => b1 (r.testBit j)) := by
  have key : ∀ k, m + k ≤ 6 → sumN (m + k) (fun j => b1 (r.testBit j)) = sumN m (fun j => b1 (r.testBit j)) := by
    intro k
    induction k with
    | zero => intro _; rfl
    | succ k ih =>
      intro hk
      rw [← Nat.add_assoc]
      simp only [sumN]
      rw [ih (by omega), Nat.testBit_lt_two_pow (Nat.lt_of_lt_of_le h (Nat.pow_le_pow_right (by omega) (Nat.le_add_right m k)))]
      simp [b1]
  rw [pop_sum, ← key (6 - m) (by omega), show m + (6 - m) = 6 by omega]
theorem pop_le (r : Nat) : pop r ≤ 6 := by
  have h : pop r ≤ (List.range 6).length := List.countP_le_length
  simpa using h
theorem okB_cell {m : Nat} {xs : List Int} (h : okB (m : Int) xs = true) {i : Nat} (hi : i < xs.length) : ∃ r : Nat, xs[i]?.getD 0 = (r : Int) ∧ r < 2 ^ m := by
  have h1 := okB_cells h xs[i] (List.getElem_mem hi)
  refine ⟨xs[i].toNat, ?_, h1.2⟩
  simp only [List.getElem?_eq_getElem hi, Option.getD_some]
  omega
theorem distX_eq {m : Nat} {xs ys : List Int} (hx : okB (m : Int) xs = true) (hy : okB (m : Int) ys = true) (hl : xs.length = ys.length) : distX xs ys = dist2 xs.length m (cellF xs) (cellF ys) := by
  have hb := okB_bd hx
  refine sumN_congr fun i hi => ?_
  obtain ⟨r, h1, h2⟩ := okB_cell hx hi
  obtain ⟨s, h3, h4⟩ := okB_cell hy (by rw [← hl]; exact hi)
  rw [h1, h3, Int.toNat_natCast, Int.toNat_natCast, pop_sumN (by omega) (Nat.xor_lt_two_pow h2 h4)]
  refine sumN_congr fun j _ => ?_
  simp only [cellF, h1, h3, Int.toNat_natCast, Nat.testBit_xor]
theorem distX_le {m : Nat} {xs ys : List Int} (hx : okB (m : Int) xs = true) : distX xs ys ≤ 36 := by
  have hb := okB_bd hx
  have h1 := sumN_le_mul (n := xs.length) (c := 6) (F := fun i => pop ((xs[i]?.getD 0).toNat ^^^ (ys[i]?.getD 0).toNat)) (fun i _ => pop_le _)
  unfold distX
  omega
theorem countP_sum : ∀ (xs : List Int) (p : Int → Bool), xs.countP p = sumN xs.length (fun i => b1 (p (xs[i]?.getD 0))) := by
  have key : ∀ (p : Int → Bool) (n : Nat) (xs : List Int), xs.length = n → xs.countP p = sumN n (fun i => b1 (p (xs[i]?.getD 0))) := by
    intro p n
    induction n with
    | zero => intro xs h; rw [List.eq_nil_of_length_eq_zero h]; rfl
    | succ n ih =>
      intro xs h
      have e : xs = xs.take n ++ [xs[n]?.getD 0] := by
        rw [List.getElem?_eq_getElem (by omega), Option.getD_some, List.take_append_getElem (by omega)]
        rw [List.take_of_length_le (by omega)]
      simp only [sumN]
      have h1 := ih (xs.take n) (by simp; omega)
      have h2 : sumN n (fun i => b1 (p ((xs.take n)[i]?.getD 0))) = sumN n (fun i => b1 (p (xs[i]?.getD 0))) := sumN_congr fun i hi => by rw [List.getElem?_take_of_lt hi]
      rw [← h2, ← h1]
      conv => lhs; rw [e, List.countP_append, List.countP_singleton]
      rfl
  intro xs p
  exact key p _ xs rfl
/-- the same sums, said of the matrices -/
theorem same2_of {m : Nat} {xs ys : List Int} (hx : okB (m : Int) xs = true) (hy : okB (m : Int) ys = true) (hr : rSums (m : Int) xs = rSums (m : Int) ys) (hc : cSums (m : Int) xs = cSums (m : Int) ys) : xs.length = ys.length ∧ Same2 xs.length m (cellF xs) (cellF ys) := by
  have hb := okB_bd hx
  simp only [rSums, hx, hy, if_true, rsum] at hr
  simp only [cSums, hx, hy, if_true, csum, Int.toNat_natCast] at hc
  have hl : xs.length = ys.length := by simpa using congrArg List.length hr
  refine ⟨hl, fun i hi => ?_, fun j hj => ?_⟩
  · obtain ⟨r, h1, h2⟩ := okB_cell hx hi
    obtain ⟨s, h3, h4⟩ := okB_cell hy (by rw [← hl]; exact hi)
    have e := congrArg (fun l : List Int => l[i]?.getD 0) hr
    have hi' : i < ys.length := by omega
    simp only [List.getElem?_map, List.getElem?_eq_getElem hi, List.getElem?_eq_getElem hi', Option.map_some, Option.getD_some] at e h1 h3
    rw [h1, h3, Int.toNat_natCast, Int.toNat_natCast] at e
    have e2 : pop r = pop s := by omega
    rw [pop_sumN (by omega) h2, pop_sumN (by omega) h4] at e2
    have g1 : (fun j => b1 (cellF xs i j)) = fun j => b1 (r.testBit j) := by funext j; simp [cellF, List.getElem?_eq_getElem hi, h1]
    have g2 : (fun j => b1 (cellF ys i j)) = fun j => b1 (s.testBit j) := by funext j; simp [cellF, List.getElem?_eq_getElem hi', h3]
    rw [g1, g2]; exact e2
  · have e := congrArg (fun l : List Int => l[j]?.getD 0) hc
    simp only [List.getElem?_map, List.getElem?_range hj, Option.map_some, Option.getD_some] at e
    have e2 : ccnt xs j = ccnt ys j := by omega
    unfold ccnt at e2
    rw [countP_sum, countP_sum, ← hl] at e2
    exact e2
theorem same2_to {m : Nat} {xs ys : List Int} (hx : okB (m : Int) xs = true) (hy : okB (m : Int) ys = true) (hl : xs.length = ys.length) (h : Same2 xs.length m (cellF xs) (cellF ys)) : rSums (m : Int) xs = rSums (m : Int) ys ∧ cSums (m : Int) xs = cSums (m : Int) ys := by
  have hb := okB_bd hx
  simp only [rSums, hx, hy, if_true, rsum, cSums, csum, Int.toNat_natCast]
  refine ⟨List.ext_getElem (by simp [hl]) (fun i h1 h2 => ?_), List.map_congr_left fun j hj => ?_⟩
  · have hi : i < xs.length := by simpa using h1
    have hi' : i < ys.length := by omega
    obtain ⟨r, e1, e2⟩ := okB_cell hx hi
    obtain ⟨s, e3, e4⟩ := okB_cell hy hi'
    have e := h.1 i hi
    simp only [List.getElem?_eq_getElem hi, List.getElem?_eq_getElem hi', Option.getD_some] at e1 e3
    have g1 : (fun j => b1 (cellF xs i j)) = fun j => b1 (r.testBit j) := by funext j; simp [cellF, List.getElem?_eq_getElem hi, e1]
    have g2 : (fun j => b1 (cellF ys i j)) = fun j => b1 (s.testBit j) := by funext j; simp [cellF, List.getElem?_eq_getElem hi', e3]
    rw [g1, g2, ← pop_sumN (by omega) e2, ← pop_sumN (by omega) e4] at e
    simp [e1, e3, e]
  · have e := h.2 j (List.mem_range.1 hj)
    have e2 : ccnt xs j = ccnt ys j := by
      unfold ccnt
      rw [countP_sum, countP_sum, ← hl]
      exact e
    rw [e2]
theorem swDo_ok2 {m : Nat} {xs : List Int} (h : okB (m : Int) xs = true) (s : Sw) : okB (m : Int) (swDo m xs s) = true := by
  have hb := okB_bd h
  unfold swDo
  exact okB_img (by omega) (by omega) (by omega) (by omega)
theorem inSw_out {s : Sw} {i j : Nat} (h : ¬ ((i = s.a ∨ i = s.b) ∧ (j = s.c ∨ j = s.d))) : inSw s i j = false := by
  simp only [inSw, Bool.and_eq_false_iff, Bool.or_eq_false_iff, beq_eq_false_iff_ne]
  omega
theorem inSw_in {s : Sw} {i j : Nat} (h : (i = s.a ∨ i = s.b) ∧ (j = s.c ∨ j = s.d)) : inSw s i j = true := by
  simp only [inSw, Bool.and_eq_true, Bool.or_eq_true, beq_iff_eq]
  exact h
/-- a switch keeps the sums -/
theorem swDo_same {m : Nat} {xs : List Int} {s : Sw} (hs : s ∈ swList m xs) : Same2 xs.length m (cellF (swDo m xs s)) (cellF xs) := by
  obtain ⟨⟨ha, hb, hc, hd⟩, hk⟩ := mem_swList.1 hs
  simp only [swOk, Bool.and_eq_true, beq_iff_eq, bne_iff_ne] at hk
  obtain ⟨⟨k1, k2⟩, k3⟩ := hk
  refine ⟨fun i hi => ?_, fun j hj => ?_⟩
  · by_cases hi2 : i = s.a ∨ i = s.b
    · have e1 : sumN m (fun j => b1 (cellF (swDo m xs s) i j)) = sumN m (fun j => b1 (if j = s.c then cellF xs i s.d else if j = s.d then cellF xs i s.c else cellF xs i j)) := by
        refine sumN_congr fun j hj => ?_
        rw [swDo_cell hi hj]
        by_cases h1 : j = s.c
        · subst h1
          rw [if_pos rfl, inSw_in ⟨hi2, .inl rfl⟩]
          congr 1
          rcases hi2 with rfl | rfl
          · revert k2; cases cellF xs s.a s.d <;> cases cellF xs s.a s.c <;> simp
          · rw [k1]; revert k3; cases cellF xs s.b s.c <;> cases cellF xs s.a s.c <;> simp
        · rw [if_neg h1]
          by_cases h2 : j = s.d
          · subst h2
            rw [if_pos rfl, inSw_in ⟨hi2, .inr rfl⟩]
            congr 1
            rcases hi2 with rfl | rfl
            · revert k2; cases cellF xs s.a s.d <;> cases cellF xs s.a s.c <;> simp
            · rw [k1]; revert k3; cases cellF xs s.b s.c <;> cases cellF xs s.a s.c <;> simp
          · rw [if_neg h2, inSw_out (by omega), Bool.xor_false]
      rw [e1]
      have h1 := sumN_one (n := m) (k := s.c) (F := fun j => b1 (if j = s.c then cellF xs i s.d else if j = s.d then cellF xs i s.c else cellF xs i j)) (G := fun j => b1 (if j = s.d then cellF xs i s.c else cellF xs i j)) (by omega)
        (fun j _ hne => by simp only [if_neg hne])
      have h2 := sumN_one (n := m) (k := s.d) (F := fun j => b1 (if j = s.d then cellF xs i s.c else cellF xs i j)) (G := fun j => b1 (cellF xs i j)) hd
        (fun j _ hne => by simp only [if_neg hne])
      simp only [if_true, if_neg (show ¬ s.c = s.d by omega)] at h1 h2
      omega
    · exact sumN_congr fun j hj => by rw [swDo_cell hi hj, inSw_out (by omega), Bool.xor_false]
  · by_cases hj2 : j = s.c ∨ j = s.d
    · have e1 : sumN xs.length (fun i => b1 (cellF (swDo m xs s) i j)) = sumN xs.length (fun i => b1 (if i = s.a then cellF xs s.b j else if i = s.b then cellF xs s.a j else cellF xs i j)) := by
        refine sumN_congr fun i hi => ?_
        rw [swDo_cell hi hj]
        by_cases h1 : i = s.a
        · subst h1
          rw [if_pos rfl, inSw_in ⟨.inl rfl, hj2⟩]
          congr 1
          rcases hj2 with rfl | rfl
          · revert k3; cases cellF xs s.b s.c <;> cases cellF xs s.a s.c <;> simp
          · rw [k1]; revert k2; cases cellF xs s.a s.d <;> cases cellF xs s.a s.c <;> simp
        · rw [if_neg h1]
          by_cases h2 : i = s.b
          · subst h2
            rw [if_pos rfl, inSw_in ⟨.inr rfl, hj2⟩]
            congr 1
            rcases hj2 with rfl | rfl
            · revert k3; cases cellF xs s.b s.c <;> cases cellF xs s.a s.c <;> simp
            · rw [k1]; revert k2; cases cellF xs s.a s.d <;> cases cellF xs s.a s.c <;> simp
          · rw [if_neg h2, inSw_out (by omega), Bool.xor_false]
      rw [e1]
      have h1 := sumN_one (n := xs.length) (k := s.a) (F := fun i => b1 (if i = s.a then cellF xs s.b j else if i = s.b then cellF xs s.a j else cellF xs i j)) (G := fun i => b1 (if i = s.b then cellF xs s.a j else cellF xs i j)) (by omega)
        (fun i _ hne => by simp only [if_neg hne])
      have h2 := sumN_one (n := xs.length) (k := s.b) (F := fun i => b1 (if i = s.b then cellF xs s.a j else cellF xs i j)) (G := fun i => b1 (cellF xs i j)) hb
        (fun i _ hne => by simp only [if_neg hne])
      simp only [if_true, if_neg (show ¬ s.a = s.b by omega)] at h1 h2
      omega
    · exact sumN_congr fun i hi => by rw [swDo_cell hi hj, inSw_out (by omega), Bool.xor_false]
theorem swDo_sums {m : Nat} {xs : List Int} (h : okB (m : Int) xs = true) {s : Sw} (hs : s ∈ swList m xs) : rSums (m : Int) (swDo m xs s) = rSums (m : Int) xs ∧ cSums (m : Int) (swDo m xs s) = cSums (m : Int) xs :=
  same2_to (swDo_ok2 h s) h (swDo_len _ _ _) (by rw [swDo_len]; exact swDo_same hs)
theorem path_sums {m n : Nat} {xs ys : List Int} (h : okB (m : Int) xs = true) (hp : Path m xs ys n) : rSums (m : Int) ys = rSums (m : Int) xs ∧ cSums (m : Int) ys = cSums (m : Int) xs := by
  induction hp with
  | nil => exact ⟨rfl, rfl⟩
  | step hp hz ih =>
    obtain ⟨s, hs, rfl⟩ := List.mem_map.1 hz
    have h1 := swDo_sums (path_ok h hp).1 hs
    exact ⟨h1.1.trans ih.1, h1.2.trans ih.2⟩
/-- the distance after a switch -/
theorem swDo_dist {m : Nat} {xs ys : List Int} {s : Sw} (hs : s.a < s.b ∧ s.b < xs.length ∧ s.c < s.d ∧ s.d < m) :
    dist2 xs.length m (cellF (swDo m xs s)) (cellF ys) + (b1 (cellF xs s.a s.c ^^ cellF ys s.a s.c) + b1 (cellF xs s.a s.d ^^ cellF ys s.a s.d) + b1 (cellF xs s.b s.c ^^ cellF ys s.b s.c) + b1 (cellF xs s.b s.d ^^ cellF ys s.b s.d)) =
      dist2 xs.length m (cellF xs) (cellF ys) + (b1 (!(cellF xs s.a s.c ^^ cellF ys s.a s.c)) + b1 (!(cellF xs s.a s.d ^^ cellF ys s.a s.d)) + b1 (!(cellF xs s.b s.c ^^ cellF ys s.b s.c)) + b1 (!(cellF xs s.b s.d ^^ cellF ys s.b s.d))) := by
  obtain ⟨ha, hb, hc, hd⟩ := hs
  have h := cnt2_four (h := xs.length) (m := m) (p := fun i j => cellF xs i j ^^ cellF ys i j) (q := fun i j => cellF (swDo m xs s) i j ^^ cellF ys i j) (a := s.a) (b := s.b) (c := s.c) (d := s.d) (by omega) hb (by omega) (by omega) hd (by omega)
    (fun i j hi hj hn => by rw [swDo_cell hi hj, inSw_out hn, Bool.xor_false])
  rw [swDo_cell (by omega) (by omega), swDo_cell (by omega) (by omega), swDo_cell (by omega) (by omega), swDo_cell (by omega) (by omega)] at h
  rw [inSw_in ⟨.inl rfl, .inl rfl⟩, inSw_in ⟨.inl rfl, .inr rfl⟩, inSw_in ⟨.inr rfl, .inl rfl⟩, inSw_in ⟨.inr rfl, .inr rfl⟩] at h
  have e : ∀ x y : Bool, ((x ^^ true) ^^ y) = !(x ^^ y) := by decide
  simp only [e] at h
  exact h
theorem swDo_dist4 {m : Nat} {xs ys : List Int} {s : Sw} (hs : s.a < s.b ∧ s.b < xs.length ∧ s.c < s.d ∧ s.d < m) : dist2 xs.length m (cellF xs) (cellF ys) ≤ dist2 xs.length m (cellF (swDo m xs s)) (cellF ys) + 4 := by
  have h := swDo_dist (ys := ys) hs
  have := b1_le (cellF xs s.a s.c ^^ cellF ys s.a s.c)
  have := b1_le (cellF xs s.a s.d ^^ cellF ys s.a s.d)
  have := b1_le (cellF xs s.b s.c ^^ cellF ys s.b s.c)
  have := b1_le (cellF xs s.b s.d ^^ cellF ys s.b s.d)
  omega
theorem b1_not (b : Bool) : b1 b + b1 (!b) = 1 := by cases b <;> rfl
/-- a distance that has changed has changed by two -/
theorem swDo_two {m : Nat} {xs ys : List Int} {s : Sw} (hs : s.a < s.b ∧ s.b < xs.length ∧ s.c < s.d ∧ s.d < m) (h1 : dist2 xs.length m (cellF (swDo m xs s)) (cellF ys) < dist2 xs.length m (cellF xs) (cellF ys)) :
    dist2 xs.length m (cellF (swDo m xs s)) (cellF ys) + 2 ≤ dist2 xs.length m (cellF xs) (cellF ys) := by
  have h := swDo_dist (ys := ys) hs
  have := b1_not (cellF xs s.a s.c ^^ cellF ys s.a s.c)
  have := b1_not (cellF xs s.a s.d ^^ cellF ys s.a s.d)
  have := b1_not (cellF xs s.b s.c ^^ cellF ys s.b s.c)
  have := b1_not (cellF xs s.b s.d ^^ cellF ys s.b s.d)
  omega
/-- the switch over two rows and two columns, in order -/
def mkSw (a b c d : Nat) : Sw := ⟨min a b, max a b, min c d, max c d⟩
theorem mkSw_mem {m : Nat} {xs : List Int} {a b c d : Nat} (ha : a < xs.length) (hb : b < xs.length) (hc : c < m) (hd : d < m) (hab : a ≠ b) (hcd : c ≠ d) (h1 : cellF xs a c = cellF xs b d) (h2 : cellF xs a d = cellF xs b c) (h3 : cellF xs a c ≠ cellF xs a d) :
    mkSw a b c d ∈ swList m xs := by
  refine mem_swList.2 ⟨⟨?_, ?_, ?_, ?_⟩, ?_⟩
  · simp only [mkSw]; omega
  · simp only [mkSw]; omega
  · simp only [mkSw]; omega
  · simp only [mkSw]; omega
  · rcases Nat.lt_or_ge a b with h4 | h4 <;> rcases Nat.lt_or_ge c d with h5 | h5
    all_goals
      simp only [mkSw, Nat.min_def, Nat.max_def, swOk]
      first
        | rw [if_pos (by omega), if_pos (by omega)]
        | skip
      simp only [show (a ≤ b) = (a < b) from propext (by omega), show (c ≤ d) = (c < d) from propext (by omega)]
      simp only [h4, h5, Nat.not_lt.2, if_true, if_false]
      revert h1 h2 h3
      cases cellF xs a c <;> cases cellF xs a d <;> cases cellF xs b c <;> cases cellF xs b d <;> simp
theorem mkSw_dist {m : Nat} {xs ys : List Int} {a b c d : Nat} (ha : a < xs.length) (hb : b < xs.length) (hc : c < m) (hd : d < m) (hab : a ≠ b) (hcd : c ≠ d) :
    dist2 xs.length m (cellF (swDo m xs (mkSw a b c d))) (cellF ys) + (b1 (cellF xs a c ^^ cellF ys a c) + b1 (cellF xs a d ^^ cellF ys a d) + b1 (cellF xs b c ^^ cellF ys b c) + b1 (cellF xs b d ^^ cellF ys b d)) =
      dist2 xs.length m (cellF xs) (cellF ys) + (b1 (!(cellF xs a c ^^ cellF ys a c)) + b1 (!(cellF xs a d ^^ cellF ys a d)) + b1 (!(cellF xs b c ^^ cellF ys b c)) + b1 (!(cellF xs b d ^^ cellF ys b d))) := by
  have h := swDo_dist (ys := ys) (m := m) (xs := xs) (s := mkSw a b c d) ⟨by simp only [mkSw]; omega, by simp only [mkSw]; omega, by simp only [mkSw]; omega, by simp only [mkSw]; omega⟩
  have e1 : (mkSw a b c d).a = min a b := rfl
  have e2 : (mkSw a b c d).b = max a b := rfl
  have e3 : (mkSw a b c d).c = min c d := rfl
  have e4 : (mkSw a b c d).d = max c d := rfl
  rw [e1, e2, e3, e4] at h
  rcases Nat.lt_or_ge a b with h4 | h4 <;> rcases Nat.lt_or_ge c d with h5 | h5
  · rw [Nat.min_eq_left (Nat.le_of_lt h4), Nat.max_eq_right (Nat.le_of_lt h4), Nat.min_eq_left (Nat.le_of_lt h5), Nat.max_eq_right (Nat.le_of_lt h5)] at h
    omega
  · rw [Nat.min_eq_left (Nat.le_of_lt h4), Nat.max_eq_right (Nat.le_of_lt h4), Nat.min_eq_right h5, Nat.max_eq_left h5] at h
    omega
  · rw [Nat.min_eq_right h4, Nat.max_eq_left h4, Nat.min_eq_left (Nat.le_of_lt h5), Nat.max_eq_right (Nat.le_of_lt h5)] at h
    omega
  · rw [Nat.min_eq_right h4, Nat.max_eq_left h4, Nat.min_eq_right h5, Nat.max_eq_left h5] at h
    omega
theorem ne_pos {m : Nat} {xs ys : List Int} (hx : okB (m : Int) xs = true) (hy : okB (m : Int) ys = true) (hl : xs.length = ys.length) (hne : xs ≠ ys) : 0 < dist2 xs.length m (cellF xs) (cellF ys) := by
  rcases Nat.eq_zero_or_pos (dist2 xs.length m (cellF xs) (cellF ys)) with h | h
  · exfalso
    apply hne
    rw [← img_self hx, ← img_self hy, hl]
    exact img_congr fun i hi j hj => dist2_zero h (by omega) hj
  · exact h
/-- of two different images with the same sums one has a switch toward the other -/
theorem toward {m : Nat} {xs ys : List Int} (hx : okB (m : Int) xs = true) (hy : okB (m : Int) ys = true) (hl : xs.length = ys.length) (hs : Same2 xs.length m (cellF xs) (cellF ys)) (hne : xs ≠ ys) :
    (∃ s ∈ swList m xs, dist2 xs.length m (cellF (swDo m xs s)) (cellF ys) < dist2 xs.length m (cellF xs) (cellF ys)) ∨
    (∃ s ∈ swList m ys, dist2 ys.length m (cellF (swDo m ys s)) (cellF xs) < dist2 ys.length m (cellF ys) (cellF xs)) := by
  have hd := ne_pos hx hy hl hne
  obtain ⟨a, c, ha, hc, hf, hg⟩ := diff_cell hs hd
  obtain ⟨a, b, c, d, ha, hb, hc, hd', h1, h2, h3, h4, h5, h6, h7⟩ := good_four hs _ a c ha hc hf hg (Nat.le_refl _)
  have hab : a ≠ b := by rintro rfl; rw [h3] at h5; cases h5
  have hcd : c ≠ d := by rintro rfl; rw [h1] at h3; cases h3
  cases h8 : cellF xs b c with
  | false =>
    refine .inl ⟨mkSw a b c d, mkSw_mem ha hb hc hd' hab hcd (by rw [h1, h5]) (by rw [h3, h8]) (by rw [h1, h3]; simp), ?_⟩
    have h := mkSw_dist (ys := ys) ha hb hc hd' hab hcd
    rw [h1, h2, h3, h4, h5, h6, h8] at h
    have := b1_not (false ^^ cellF ys b c)
    simp only [Bool.xor_false, Bool.xor_true, Bool.not_false, Bool.not_true, b1, if_true, Bool.false_eq_true, if_false] at h this
    omega
  | true =>
    have h9 : cellF ys b c = true := by
      cases h9 : cellF ys b c with
      | true => rfl
      | false => exact absurd ⟨h8, h9⟩ h7
    refine .inr ⟨mkSw a b c d, mkSw_mem (by omega) (by omega) hc hd' hab hcd (by rw [h2, h6]) (by rw [h4, h9]) (by rw [h2, h4]; simp), ?_⟩
    have h := mkSw_dist (xs := ys) (ys := xs) (by omega) (by omega) hc hd' hab hcd
    rw [h1, h2, h3, h4, h5, h6, h8, h9] at h
    simp only [Bool.xor_false, Bool.xor_true, Bool.not_false, Bool.not_true, b1, if_true, Bool.false_eq_true, if_false] at h
    omega
/-- between images with the same sums there is a way, and a short one -/
theorem way {m : Nat} : ∀ (N : Nat) {xs ys : List Int}, okB (m : Int) xs = true → okB (m : Int) ys = true → xs.length = ys.length → Same2 xs.length m (cellF xs) (cellF ys) → dist2 xs.length m (cellF xs) (cellF ys) ≤ N →
    ∃ n, Path m xs ys n ∧ (xs = ys ∧ n = 0 ∨ 2 * n + 2 ≤ dist2 xs.length m (cellF xs) (cellF ys)) := by
  intro N
  induction N with
  | zero =>
    intro xs ys hx hy hl _ hN
    rcases Classical.em (xs = ys) with h | h
    · subst h; exact ⟨0, .nil, .inl ⟨rfl, rfl⟩⟩
    · have := ne_pos hx hy hl h; omega
  | succ N ih =>
    intro xs ys hx hy hl hs hN
    rcases Classical.em (xs = ys) with h | h
    · subst h; exact ⟨0, .nil, .inl ⟨rfl, rfl⟩⟩
    have h4 := dist2_four hs (ne_pos hx hy hl h)
    rcases toward hx hy hl hs h with ⟨s, h1, h2⟩ | ⟨s, h1, h2⟩
    · have h3 := swDo_two (mem_swList.1 h1).1 h2
      have hz : swDo m xs s ∈ nbrs m xs := List.mem_map.2 ⟨s, h1, rfl⟩
      have hS : Same2 (swDo m xs s).length m (cellF (swDo m xs s)) (cellF ys) := by
        rw [swDo_len]
        exact ⟨fun i hi => ((swDo_same h1).1 i hi).trans (hs.1 i hi), fun j hj => ((swDo_same h1).2 j hj).trans (hs.2 j hj)⟩
      obtain ⟨n, hp, hn⟩ := ih (swDo_ok2 hx s) hy (by rw [swDo_len]; exact hl) hS (by rw [swDo_len]; omega)
      rw [swDo_len] at hn
      refine ⟨n + 1, Path.head hz hp, .inr ?_⟩
      rcases hn with ⟨_, rfl⟩ | hn <;> omega
    · have h3 := swDo_two (mem_swList.1 h1).1 h2
      have hz : swDo m ys s ∈ nbrs m ys := List.mem_map.2 ⟨s, h1, rfl⟩
      have hS : Same2 xs.length m (cellF xs) (cellF (swDo m ys s)) :=
        ⟨fun i hi => (hs.1 i hi).trans ((swDo_same h1).1 i (by omega)).symm, fun j hj => (hs.2 j hj).trans (by rw [hl]; exact ((swDo_same h1).2 j hj).symm)⟩
      have e1 : dist2 xs.length m (cellF xs) (cellF (swDo m ys s)) = dist2 ys.length m (cellF (swDo m ys s)) (cellF xs) := by rw [hl]; exact dist2_symm _ _ _ _
      have e2 : dist2 xs.length m (cellF xs) (cellF ys) = dist2 ys.length m (cellF ys) (cellF xs) := by rw [hl]; exact dist2_symm _ _ _ _
      obtain ⟨n, hp, hn⟩ := ih hx (swDo_ok2 hy s) (by rw [swDo_len]; exact hl) hS (by omega)
      refine ⟨n + 1, .step hp (nbrs_back hy hz), .inr ?_⟩
      rcases hn with ⟨_, rfl⟩ | hn <;> omega
theorem path_dist {m n : Nat} {xs ys : List Int} (h : okB (m : Int) xs = true) (hp : Path m xs ys n) : dist2 xs.length m (cellF xs) (cellF ys) ≤ 4 * n := by
  induction hp with
  | nil => rw [dist2_self (fun _ _ _ _ => rfl)]; omega
  | @step y z n' hp hz ih =>
    obtain ⟨s, hs, rfl⟩ := List.mem_map.1 hz
    have hl := (path_ok h hp).2
    have h1 := swDo_dist4 (m := m) (ys := xs) (mem_swList.1 hs).1
    rw [hl] at h1
    rw [dist2_symm] at ih h1
    rw [dist2_symm]
    have h2 := swDo_dist (m := m) (ys := xs) (mem_swList.1 hs).1
    rw [hl] at h2
    have := b1_not (cellF y s.a s.c ^^ cellF xs s.a s.c)
    have := b1_not (cellF y s.a s.d ^^ cellF xs s.a s.d)
    have := b1_not (cellF y s.b s.c ^^ cellF xs s.b s.c)
    have := b1_not (cellF y s.b s.d ^^ cellF xs s.b s.d)
    omega
end Go.Proofs.Ytnbaedpckdefgaa
