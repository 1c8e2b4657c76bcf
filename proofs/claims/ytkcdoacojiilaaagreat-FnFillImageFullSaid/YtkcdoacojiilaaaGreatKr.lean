
/- Plain facts and walks that the law's proof uses; each says its own conditions. -/
import Derived.Test.YtkcdoacojiilaaaGreatKa
import Derived.Test.YtkcdoacojiilaaaGreatKf
import Derived.Test.YtkcdoacojiilaaaGreatSu
import Derived.Test.YtkcdoacojiilaaaGreatWg
import Derived.Deep.RegionHeld3
import Derived.Deep.RegionWith
import Derived.Deep.QuietTactic
import Derived.BigQuiet
import Derived.Test.YtkcdoacojiilaaaGreatKl
import Derived.Test.YtkcdoacojiilaaaGreatKg
import Derived.OwnWalkIn
import Derived.Test.YtkcdoacojiilaaaGreatKj
import Derived.Test.YtkcdoacojiilaaaGreatSv
-- Plain mathematics: images with the same sums; their distance; a way of switches between them.
namespace Go.Proofs.YtkcdoacojiilaaaGreat

/-- the number of different cells -/
def distX (xs ys : List Int) : Nat := sumN xs.length (fun i => pop ((xs[i]?.getD 0).toNat ^^^ (ys[i]?.getD 0).toNat))
theorem pop_sum (r : Nat) : pop r = sumN 6 (fun j => b1 (r.testBit j)) := by
  simp [pop, sumN, b1, List.range_succ, List.countP_cons]
  omega
theorem pop_sumN {m r : Nat} (hm : m ≤ 6) (h : r < 2 ^ m) : pop r = sumN m (fun j => b1 (r.testBit j)) := by
  have key : ∀ k, m + k ≤ 6 → sumN (m + k) (fun j => b1 (r.testBit j)) = sumN m (fun j => b1 (r.testBit j)) := by
    intro k
    induction k with
    | zero => intro _; rfl
    | succ k ih =>
      intro hk
      rw [← Nat.add_assoc]
      simp only [sumN]
      rw [ih (by omega), Nat.testBit_lt_two_pow (Nat.lt_of_lt_of_le h (Nat.pow_le_pow_right (by omega) (Nat.le_add_right m k)))]
      simp [b1]
  rw [pop_sum, ← key (6 - m) (by omega), show m + (6 - m) = 6 by omega]
theorem pop_le (r : Nat) : pop r ≤ 6 := by
  have h : pop r ≤ (List.range 6).length := List.countP_le_length
  simpa using h
theorem okB_cell {m : Nat} {xs : List Int} (h : okB (m : Int) xs = true) {i : Nat} (hi : i < xs.length) : ∃ r : Nat, xs[i]?.getD 0 = (r : Int) ∧ r < 2 ^ m := by
  have h1 := okB_cells h xs[i] (List.getElem_mem hi)
  refine ⟨xs[i].toNat, ?_, h1.2⟩
  simp only [List.getElem?_eq_getElem hi, Option.getD_some]
  omega
theorem distX_eq {m : Nat} {xs ys : List Int} (hx : okB (m : Int) xs = true) (hy : okB (m : Int) ys = true) (hl : xs.length = ys.length) : distX xs ys = dist2 xs.length m (cellF xs) (cellF ys) := by
  have hb := okB_bd hx
  refine sumN_congr fun i hi => ?_
  obtain ⟨r, h1, h2⟩ := okB_cell hx hi
  obtain ⟨s, h3, h4⟩ := okB_cell hy (by rw [← hl]; exact hi)
  rw [h1, h3, Int.toNat_natCast, Int.toNat_natCast, pop_sumN (by omega) (Nat.xor_lt_two_pow h2 h4)]
  refine sumN_congr fun j _ => ?_
  simp only [cellF, h1, h3, Int.toNat_natCast, Nat.testBit_xor]
theorem distX_le {m : Nat} {xs ys : List Int} (hx : okB (m : Int) xs = true) : distX xs ys ≤ 36 := by
  have hb := okB_bd hx
  have h1 := sumN_le_mul (n := xs.length) (c := 6) (F := fun i => pop ((xs[i]?.getD 0).toNat ^^^ (ys[i]?.getD 0).toNat)) (fun i _ => pop_le _)
  unfold distX
  omega
theorem countP_sum : ∀ (xs : List Int) (p : Int → Bool), xs.countP p = sumN xs.length (fun i => b1 (p (xs[i]?.getD 0))) := by
  have key : ∀ (p : Int → Bool) (n : Nat) (xs : List Int), xs.length = n → xs.countP p = sumN n (fun i => b1 (p (xs[i]?.getD 0))) := by
    intro p n
    induction n with
    | zero => intro xs h; rw [List.eq_nil_of_length_eq_zero h]; rfl
    | succ n ih =>
      intro xs h
      have e : xs = xs.take n ++ [xs[n]?.getD 0] := by
        rw [List.getElem?_eq_getElem (by omega), Option.getD_some, List.take_append_getElem (by omega)]
        rw [List.take_of_length_le (by omega)]
      simp only [sumN]
      have h1 := ih (xs.take n) (by simp; omega)
      have h2 : sumN n (fun i => b1 (p ((xs.take n)[i]?.getD 0))) = sumN n (fun i => b1 (p (xs[i]?.getD 0))) := sumN_congr fun i hi => by rw [List.getElem?_take_of_lt hi]
      rw [← h2, ← h1]
      conv => lhs; rw [e, List.countP_append, List.countP_singleton]
      rfl
  intro xs p
  exact key p _ xs rfl
/-- the same sums, said of the matrices -/
theorem same2_of {m : Nat} {xs ys : List Int} (hx : okB (m : Int) xs = true) (hy : okB (m : Int) ys = true) (hr : rSums (m : Int) xs = rSums (m : Int) ys) (hc : cSums (m : Int) xs = cSums (m : Int) ys) : xs.length = ys.length ∧ Same2 xs.length m (cellF xs) (cellF ys) := by
  have hb := okB_bd hx
  simp only [rSums, hx, hy, if_true, rsum] at hr
  simp only [cSums, hx, hy, if_true, csum, Int.toNat_natCast] at hc
  have hl : xs.length = ys.length := by simpa using congrArg List.length hr
  refine ⟨hl, fun i hi => ?_, fun j hj => ?_⟩
  · obtain ⟨r, h1, h2⟩ := okB_cell hx hi
    obtain ⟨s, h3, h4⟩ := okB_cell hy (by rw [← hl]; exact hi)
    have e := congrArg (fun l : List Int => l[i]?.getD 0) hr
    have hi' : i < ys.length := by omega
    simp only [List.getElem?_map, List.getElem?_eq_getElem hi, List.getElem?_eq_getElem hi', Option.map_some, Option.getD_some] at e h1 h3
    rw [h1, h3, Int.toNat_natCast, Int.toNat_natCast] at e
    have e2 : pop r = pop s := by omega
    rw [pop_sumN (by omega) h2, pop_sumN (by omega) h4] at e2
    have g1 : (fun j => b1 (cellF xs i j)) = fun j => b1 (r.testBit j) := by funext j; simp [cellF, List.getElem?_eq_getElem hi, h1]
    have g2 : (fun j => b1 (cellF ys i j)) = fun j => b1 (s.testBit j) := by funext j; simp [cellF, List.getElem?_eq_getElem hi', h3]
    rw [g1, g2]; exact e2
  · have e := congrArg (fun l : List Int => l[j]?.getD 0) hc
    simp only [List.getElem?_map, List.getElem?_range hj, Option.map_some, Option.getD_some] at e
    have e2 : ccnt xs j = ccnt ys j := by omega
    unfold ccnt at e2
    rw [countP_sum, countP_sum, ← hl] at e2
    exact e2
theorem same2_to {m : Nat} {xs ys : List Int} (hx : okB (m : Int) xs = true) (hy : okB (m : Int) ys = true) (hl : xs.length = ys.length) (h : Same2 xs.length m (cellF xs) (cellF ys)) : rSums (m : Int) xs = rSums (m : Int) ys ∧ cSums (m : Int) xs = cSums (m : Int) ys := by
  have hb := okB_bd hx
  simp only [rSums, hx, hy, if_true, rsum, cSums, csum, Int.toNat_natCast]
  refine ⟨List.ext_getElem (by simp [hl]) (fun i h1 h2 => ?_), List.map_congr_left fun j hj => ?_⟩
  · have hi : i < xs.length := by simpa using h1
    have hi' : i < ys.length := by omega
    obtain ⟨r, e1, e2⟩ := okB_cell hx hi
    obtain ⟨s, e3, e4⟩ := okB_cell hy hi'
    have e := h.1 i hi
    simp only [List.getElem?_eq_getElem hi, List.getElem?_eq_getElem hi', Option.getD_some] at e1 e3
    have g1 : (fun j => b1 (cellF xs i j)) = fun j => b1 (r.testBit j) := by funext j; simp [cellF, List.getElem?_eq_getElem hi, e1]
    have g2 : (fun j => b1 (cellF ys i j)) = fun j => b1 (s.testBit j) := by funext j; simp [cellF, List.getElem?_eq_getElem hi', e3]
    rw [g1, g2, ← pop_sumN (by omega) e2, ← pop_sumN (by omega) e4] at e
    simp [e1, e3, e]
  · have e := h.2 j (List.mem_range.1 hj)
    have e2 : ccnt xs j = ccnt ys j := by
      unfold ccnt
      rw [countP_sum, countP_sum, ← hl]
      exact e
    rw [e2]
theorem swDo_ok2 {m : Nat} {xs : List Int} (h : okB (m : Int) xs = true) (s : Sw) : okB (m : Int) (swDo m xs s) = true := by
  have hb := okB_bd h
  unfold swDo
  exact okB_img (by omega) (by omega) (by omega) (by omega)
theorem inSw_out {s : Sw} {i j : Nat} (h : ¬ ((i = s.a ∨ i = s.b) ∧ (j = s.c ∨ j = s.d))) : inSw s i j = false := by
  simp only [inSw, Bool.and_eq_false_iff, Bool.or_eq_false_iff, beq_eq_false_iff_ne]
  omega
theorem inSw_in {s : Sw} {i j : Nat} (h : (i = s.a ∨ i = s.b) ∧ (j = s.c ∨ j = s.d)) : inSw s i j = true := by
  simp only [inSw, Bool.and_eq_true, Bool.or_eq_true, beq_iff_eq]
  exact h
/-- a switch keeps the sums -/
theorem swDo_same {m : Nat} {xs : List Int} {s : Sw} (hs : s ∈ swList m xs) : Same2 xs.length m (cellF (swDo m xs s)) (cellF xs) := by
  obtain ⟨⟨ha, hb, hc, hd⟩, hk⟩ := mem_swList.1 hs
  simp only [swOk, Bool.and_eq_true, beq_iff_eq, bne_iff_ne] at hk
  obtain ⟨⟨k1, k2⟩, k3⟩ := hk
  refine ⟨fun i hi => ?_, fun j hj => ?_⟩
  · by_cases hi2 : i = s.a ∨ i = s.b
    · have e1 : sumN m (fun j => b1 (cellF (swDo m xs s) i j)) = sumN m (fun j => b1 (if j = s.c then cellF xs i s.d else if j = s.d then cellF xs i s.c else cellF xs i j)) := by
        refine sumN_congr fun j hj => ?_
        rw [swDo_cell hi hj]
        by_cases h1 : j = s.c
        · subst h1
          rw [if_pos rfl, inSw_in ⟨hi2, .inl rfl⟩]
          congr 1
          rcases hi2 with rfl | rfl
          · revert k2; cases cellF xs s.a s.d <;> cases cellF xs s.a s.c <;> simp
          · rw [k1]; revert k3; cases cellF xs s.b s.c <;> cases cellF xs s.a s.c <;> simp
        · rw [if_neg h1]
          by_cases h2 : j = s.d
          · subst h2
            rw [if_pos rfl, inSw_in ⟨hi2, .inr rfl⟩]
            congr 1
            rcases hi2 with rfl | rfl
            · revert k2; cases cellF xs s.a s.d <;> cases cellF xs s.a s.c <;> simp
            · rw [k1]; revert k3; cases cellF xs s.b s.c <;> cases cellF xs s.a s.c <;> simp
          · rw [if_neg h2, inSw_out (by omega), Bool.xor_false]
      rw [e1]
      have h1 := sumN_one (n := m) (k := s.c) (F := fun j => b1 (if j = s.c then cellF xs i s.d else if j = s.d then cellF xs i s.c else cellF xs i j)) (G := fun j => b1 (if j = s.d then cellF xs i s.c else cellF xs i j)) (by omega)
        (fun j _ hne => by simp only [if_neg hne])
      have h2 := sumN_one (n := m) (k := s.d) (F := fun j => b1 (if j = s.d then cellF xs i s.c else cellF xs i j)) (G := fun j => b1 (cellF xs i j)) hd
        (fun j _ hne => by simp only [if_neg hne])
      simp only [if_true, if_neg (show ¬ s.c = s.d by omega)] at h1 h2
      omega
    · exact sumN_congr fun j hj => by rw [swDo_cell hi hj, inSw_out (by omega), Bool.xor_false]
  · by_cases hj2 : j = s.c ∨ j = s.d
    · have e1 : sumN xs.length (fun i => b1 (cellF (swDo m xs s) i j)) = sumN xs.length (fun i => b1 (if i = s.a then cellF xs s.b j else if i = s.b then cellF xs s.a j else cellF xs i j)) := by
        refine sumN_congr fun i hi => ?_
        rw [swDo_cell hi hj]
        by_cases h1 : i = s.a
        · subst h1
          rw [if_pos rfl, inSw_in ⟨.inl rfl, hj2⟩]
          congr 1
          rcases hj2 with rfl | rfl
          · revert k3; cases cellF xs s.b s.c <;> cases cellF xs s.a s.c <;> simp
          · rw [k1]; revert k2; cases cellF xs s.a s.d <;> cases cellF xs s.a s.c <;> simp
        · rw [if_neg h1]
          by_cases h2 : i = s.b
          · subst h2
            rw [if_pos rfl, inSw_in ⟨.inr rfl, hj2⟩]
            congr 1
            rcases hj2 with rfl | rfl
            · revert k3; cases cellF xs s.b s.c <;> cases cellF xs s.a s.c <;> simp
            · rw [k1]; revert k2; cases cellF xs s.a s.d <;> cases cellF xs s.a s.c <;> simp
          · rw [if_neg h2, inSw_out (by omega), Bool.xor_false]
      rw [e1]
      have h1 := sumN_one (n := xs.length) (k := s.a) (F := fun i => b1 (if i = s.a then cellF xs s.b j else if i = s.b then cellF xs s.a j else cellF xs i j)) (G := fun i => b1 (if i = s.b then cellF xs s.a j else cellF xs i j)) (by omega)
        (fun i _ hne => by simp only [if_neg hne])
      have h2 := sumN_one (n := xs.length) (k := s.b) (F := fun i => b1 (if i = s.b then cellF xs s.a j else cellF xs i j)) (G := fun i => b1 (cellF xs i j)) hb
        (fun i _ hne => by simp only [if_neg hne])
      simp only [if_true, if_neg (show ¬ s.a = s.b by omega)] at h1 h2
      omega
    · exact sumN_congr fun i hi => by rw [swDo_cell hi hj, inSw_out (by omega), Bool.xor_false]
theorem swDo_sums {m : Nat} {xs : List Int} (h : okB (m : Int) xs = true) {s : Sw} (hs : s ∈ swList m xs) : rSums (m : Int) (swDo m xs s) = rSums (m : Int) xs ∧ cSums (m : Int) (swDo m xs s) = cSums (m : Int) xs :=
  same2_to (swDo_ok2 h s) h (swDo_len _ _ _) (by rw [swDo_len]; exact swDo_same hs)
theorem path_sums {m n : Nat} {xs ys : List Int} (h : okB (m : Int) xs = true) (hp : Path m xs ys n) : rSums (m : Int) ys = rSums (m : Int) xs ∧ cSums (m : Int) ys = cSums (m : Int) xs := by
  induction hp with
  | nil => exact ⟨rfl, rfl⟩
  | step hp hz ih =>
    obtain ⟨s, hs, rfl⟩ := List.mem_map.1 hz
    have h1 := swDo_sums (path_ok h hp).1 hs
    exact ⟨h1.1.trans ih.1, h1.2.trans ih.2⟩
/-- the distance after a switch -/
theorem swDo_dist {m : Nat} {xs ys : List Int} {s : Sw} (hs : s.a < s.b ∧ s.b < xs.length ∧ s.c < s.d ∧ s.d < m) :
    dist2 xs.length m (cellF (swDo m xs s)) (cellF ys) + (b1 (cellF xs s.a s.c ^^ cellF ys s.a s.c) + b1 (cellF xs s.a s.d ^^ cellF ys s.a s.d) + b1 (cellF xs s.b s.c ^^ cellF ys s.b s.c) + b1 (cellF xs s.b s.d ^^ cellF ys s.b s.d)) =
      dist2 xs.length m (cellF xs) (cellF ys) + (b1 (!(cellF xs s.a s.c ^^ cellF ys s.a s.c)) + b1 (!(cellF xs s.a s.d ^^ cellF ys s.a s.d)) + b1 (!(cellF xs s.b s.c ^^ cellF ys s.b s.c)) + b1 (!(cellF xs s.b s.d ^^ cellF ys s.b s.d))) := by
  obtain ⟨ha, hb, hc, hd⟩ := hs
  have h := cnt2_four (h := xs.length) (m := m) (p := fun i j => cellF xs i j ^^ cellF ys i j) (q := fun i j => cellF (swDo m xs s) i j ^^ cellF ys i j) (a := s.a) (b := s.b) (c := s.c) (d := s.d) (by omega) hb (by omega) (by omega) hd (by omega)
    (fun i j hi hj hn => by rw [swDo_cell hi hj, inSw_out hn, Bool.xor_false])
  rw [swDo_cell (by omega) (by omega), swDo_cell (by omega) (by omega), swDo_cell (by omega) (by omega), swDo_cell (by omega) (by omega)] at h
  rw [inSw_in ⟨.inl rfl, .inl rfl⟩, inSw_in ⟨.inl rfl, .inr rfl⟩, inSw_in ⟨.inr rfl, .inl rfl⟩, inSw_in ⟨.inr rfl, .inr rfl⟩] at h
  have e : ∀ x y : Bool, ((x ^^ true) ^^ y) = !(x ^^ y) := by decide
  simp only [e] at h
  exact h
theorem swDo_dist4 {m : Nat} {xs ys : List Int} {s : Sw} (hs : s.a < s.b ∧ s.b < xs.length ∧ s.c < s.d ∧ s.d < m) : dist2 xs.length m (cellF xs) (cellF ys) ≤ dist2 xs.length m (cellF (swDo m xs s)) (cellF ys) + 4 := by
  have h := swDo_dist (ys := ys) hs
  have := b1_le (cellF xs s.a s.c ^^ cellF ys s.a s.c)
  have := b1_le (cellF xs s.a s.d ^^ cellF ys s.a s.d)
  have := b1_le (cellF xs s.b s.c ^^ cellF ys s.b s.c)
  have := b1_le (cellF xs s.b s.d ^^ cellF ys s.b s.d)
  omega
theorem b1_not (b : Bool) : b1 b + b1 (!b) = 1 := by cases b <;> rfl
/-- a distance that has changed has changed by two -/
theorem swDo_two {m : Nat} {xs ys : List Int} {s : Sw} (hs : s.a < s.b ∧ s.b < xs.length ∧ s.c < s.d ∧ s.d < m) (h1 : dist2 xs.length m (cellF (swDo m xs s)) (cellF ys) < dist2 xs.length m (cellF xs) (cellF ys)) :
    dist2 xs.length m (cellF (swDo m xs s)) (cellF ys) + 2 ≤ dist2 xs.length m (cellF xs) (cellF ys) := by
  have h := swDo_dist (ys := ys) hs
  have := b1_not (cellF xs s.a s.c ^^ cellF ys s.a s.c)
  have := b1_not (cellF xs s.a s.d ^^ cellF ys s.a s.d)
  have := b1_not (cellF xs s.b s.c ^^ cellF ys s.b s.c)
  have := b1_not (cellF xs s.b s.d ^^ cellF ys s.b s.d)
  omega
/-- the switch over two rows and two columns, in order -/
def mkSw (a b c d : Nat) : Sw := ⟨min a b, max a b, min c d, max c d⟩
theorem mkSw_mem {m : Nat} {xs : List Int} {a b c d : Nat} (ha : a < xs.length) (hb : b < xs.length) (hc : c < m) (hd : d < m) (hab : a ≠ b) (hcd : c ≠ d) (h1 : cellF xs a c = cellF xs b d) (h2 : cellF xs a d = cellF xs b c) (h3 : cellF xs a c ≠ cellF xs a d) :
    mkSw a b c d ∈ swList m xs := by
  refine mem_swList.2 ⟨⟨?_, ?_, ?_, ?_⟩, ?_⟩
  · simp only [mkSw]; omega
  · simp only [mkSw]; omega
  · simp only [mkSw]; omega
  · simp only [mkSw]; omega
  · rcases Nat.lt_or_ge a b with h4 | h4 <;> rcases Nat.lt_or_ge c d with h5 | h5
    all_goals
      simp only [mkSw, Nat.min_def, Nat.max_def, swOk]
      first
        | rw [if_pos (by omega), if_pos (by omega)]
        | skip
      simp only [show (a ≤ b) = (a < b) from propext (by omega), show (c ≤ d) = (c < d) from propext (by omega)]
      simp only [h4, h5, Nat.not_lt.2, if_true, if_false]
      revert h1 h2 h3
      cases cellF xs a c <;> cases cellF xs a d <;> cases cellF xs b c <;> cases cellF xs b d <;> simp
theorem mkSw_dist {m : Nat} {xs ys : List Int} {a b c d : Nat} (ha : a < xs.length) (hb : b < xs.length) (hc : c < m) (hd : d < m) (hab : a ≠ b) (hcd : c ≠ d) :
    dist2 xs.length m (cellF (swDo m xs (mkSw a b c d))) (cellF ys) + (b1 (cellF xs a c ^^ cellF ys a c) + b1 (cellF xs a d ^^ cellF ys a d) + b1 (cellF xs b c ^^ cellF ys b c) + b1 (cellF xs b d ^^ cellF ys b d)) =
      dist2 xs.length m (cellF xs) (cellF ys) + (b1 (!(cellF xs a c ^^ cellF ys a c)) + b1 (!(cellF xs a d ^^ cellF ys a d)) + b1 (!(cellF xs b c ^^ cellF ys b c)) + b1 (!(cellF xs b d ^^ cellF ys b d))) := by
  have h := swDo_dist (ys := ys) (m := m) (xs := xs) (s := mkSw a b c d) ⟨by simp only [mkSw]; omega, by simp only [mkSw]; omega, by simp only [mkSw]; omega, by simp only [mkSw]; omega⟩
  have e1 : (mkSw a b c d).a = min a b := rfl
  have e2 : (mkSw a b c d).b = max a b := rfl
  have e3 : (mkSw a b c d).c = min c d := rfl
  have e4 : (mkSw a b c d).d = max c d := rfl
  rw [e1, e2, e3, e4] at h
  rcases Nat.lt_or_ge a b with h4 | h4 <;> rcases Nat.lt_or_ge c d with h5 | h5
  · rw [Nat.min_eq_left (Nat.le_of_lt h4), Nat.max_eq_right (Nat.le_of_lt h4), Nat.min_eq_left (Nat.le_of_lt h5), Nat.max_eq_right (Nat.le_of_lt h5)] at h
    omega
  · rw [Nat.min_eq_left (Nat.le_of_lt h4), Nat.max_eq_right (Nat.le_of_lt h4), Nat.min_eq_right h5, Nat.max_eq_left h5] at h
    omega
  · rw [Nat.min_eq_right h4, Nat.max_eq_left h4, Nat.min_eq_left (Nat.le_of_lt h5), Nat.max_eq_right (Nat.le_of_lt h5)] at h
    omega
  · rw [Nat.min_eq_right h4, Nat.max_eq_left h4, Nat.min_eq_right h5, Nat.max_eq_left h5] at h
    omega
theorem ne_pos {m : Nat} {xs ys : List Int} (hx : okB (m : Int) xs = true) (hy : okB (m : Int) ys = true) (hl : xs.length = ys.length) (hne : xs ≠ ys) : 0 < dist2 xs.length m (cellF xs) (cellF ys) := by
  rcases Nat.eq_zero_or_pos (dist2 xs.length m (cellF xs) (cellF ys)) with h | h
  · exfalso
    apply hne
    rw [← img_self hx, ← img_self hy, hl]
    exact img_congr fun i hi j hj => dist2_zero h (by omega) hj
  · exact h
/-- of two different images with the same sums one has a switch toward the other -/
theorem toward {m : Nat} {xs ys : List Int} (hx : okB (m : Int) xs = true) (hy : okB (m : Int) ys = true) (hl : xs.length = ys.length) (hs : Same2 xs.length m (cellF xs) (cellF ys)) (hne : xs ≠ ys) :
    (∃ s ∈ swList m xs, dist2 xs.length m (cellF (swDo m xs s)) (cellF ys) < dist2 xs.length m (cellF xs) (cellF ys)) ∨
    (∃ s ∈ swList m ys, dist2 ys.length m (cellF (swDo m ys s)) (cellF xs) < dist2 ys.length m (cellF ys) (cellF xs)) := by
  have hd := ne_pos hx hy hl hne
  obtain ⟨a, c, ha, hc, hf, hg⟩ := diff_cell hs hd
  obtain ⟨a, b, c, d, ha, hb, hc, hd', h1, h2, h3, h4, h5, h6, h7⟩ := good_four hs _ a c ha hc hf hg (Nat.le_refl _)
  have hab : a ≠ b := by rintro rfl; rw [h3] at h5; cases h5
  have hcd : c ≠ d := by rintro rfl; rw [h1] at h3; cases h3
  cases h8 : cellF xs b c with
  | false =>
    refine .inl ⟨mkSw a b c d, mkSw_mem ha hb hc hd' hab hcd (by rw [h1, h5]) (by rw [h3, h8]) (by rw [h1, h3]; simp), ?_⟩
    have h := mkSw_dist (ys := ys) ha hb hc hd' hab hcd
    rw [h1, h2, h3, h4, h5, h6, h8] at h
    have := b1_not (false ^^ cellF ys b c)
    simp only [Bool.xor_false, Bool.xor_true, Bool.not_false, Bool.not_true, b1, if_true, Bool.false_eq_true, if_false] at h this
    omega
  | true =>
    have h9 : cellF ys b c = true := by
      cases h9 : cellF ys b c with
      | true => rfl
      | false => exact absurd ⟨h8, h9⟩ h7
    refine .inr ⟨mkSw a b c d, mkSw_mem (by omega) (by omega) hc hd' hab hcd (by rw [h2, h6]) (by rw [h4, h9]) (by rw [h2, h4]; simp), ?_⟩
    have h := mkSw_dist (xs := ys) (ys := xs) (by omega) (by omega) hc hd' hab hcd
    rw [h1, h2, h3, h4, h5, h6, h8, h9] at h
    simp only [Bool.xor_false, Bool.xor_true, Bool.not_false, Bool.not_true, b1, if_true, Bool.false_eq_true, if_false] at h
    omega
/-- between images with the same sums there is a way, and a short one -/
theorem way {m : Nat} : ∀ (N : Nat) {xs ys : List Int}, okB (m : Int) xs = true → okB (m : Int) ys = true → xs.length = ys.length → Same2 xs.length m (cellF xs) (cellF ys) → dist2 xs.length m (cellF xs) (cellF ys) ≤ N →
    ∃ n, Path m xs ys n ∧ (xs = ys ∧ n = 0 ∨ 2 * n + 2 ≤ dist2 xs.length m (cellF xs) (cellF ys)) := by
  intro N
  induction N with
  | zero =>
    intro xs ys hx hy hl _ hN
    rcases Classical.em (xs = ys) with h | h
    · subst h; exact ⟨0, .nil, .inl ⟨rfl, rfl⟩⟩
    · have := ne_pos hx hy hl h; omega
  | succ N ih =>
    intro xs ys hx hy hl hs hN
    rcases Classical.em (xs = ys) with h | h
    · subst h; exact ⟨0, .nil, .inl ⟨rfl, rfl⟩⟩
    have h4 := dist2_four hs (ne_pos hx hy hl h)
    rcases toward hx hy hl hs h with ⟨s, h1, h2⟩ | ⟨s, h1, h2⟩
    · have h3 := swDo_two (mem_swList.1 h1).1 h2
      have hz : swDo m xs s ∈ nbrs m xs := List.mem_map.2 ⟨s, h1, rfl⟩
      have hS : Same2 (swDo m xs s).length m (cellF (swDo m xs s)) (cellF ys) := by
        rw [swDo_len]
        exact ⟨fun i hi => ((swDo_same h1).1 i hi).trans (hs.1 i hi), fun j hj => ((swDo_same h1).2 j hj).trans (hs.2 j hj)⟩
      obtain ⟨n, hp, hn⟩ := ih (swDo_ok2 hx s) hy (by rw [swDo_len]; exact hl) hS (by rw [swDo_len]; omega)
      rw [swDo_len] at hn
      refine ⟨n + 1, Path.head hz hp, .inr ?_⟩
      rcases hn with ⟨_, rfl⟩ | hn <;> omega
    · have h3 := swDo_two (mem_swList.1 h1).1 h2
      have hz : swDo m ys s ∈ nbrs m ys := List.mem_map.2 ⟨s, h1, rfl⟩
      have hS : Same2 xs.length m (cellF xs) (cellF (swDo m ys s)) :=
        ⟨fun i hi => (hs.1 i hi).trans ((swDo_same h1).1 i (by omega)).symm, fun j hj => (hs.2 j hj).trans (by rw [hl]; exact ((swDo_same h1).2 j hj).symm)⟩
      have e1 : dist2 xs.length m (cellF xs) (cellF (swDo m ys s)) = dist2 ys.length m (cellF (swDo m ys s)) (cellF xs) := by rw [hl]; exact dist2_symm _ _ _ _
      have e2 : dist2 xs.length m (cellF xs) (cellF ys) = dist2 ys.length m (cellF ys) (cellF xs) := by rw [hl]; exact dist2_symm _ _ _ _
      obtain ⟨n, hp, hn⟩ := ih hx (swDo_ok2 hy s) (by rw [swDo_len]; exact hl) hS (by omega)
      refine ⟨n + 1, .step hp (nbrs_back hy hz), .inr ?_⟩
      rcases hn with ⟨_, rfl⟩ | hn <;> omega
theorem path_dist {m n : Nat} {xs ys : List Int} (h : okB (m : Int) xs = true) (hp : Path m xs ys n) : dist2 xs.length m (cellF xs) (cellF ys) ≤ 4 * n := by
  induction hp with
  | nil => rw [dist2_self (fun _ _ _ _ => rfl)]; omega
  | @step y z n' hp hz ih =>
    obtain ⟨s, hs, rfl⟩ := List.mem_map.1 hz
    have hl := (path_ok h hp).2
    have h1 := swDo_dist4 (m := m) (ys := xs) (mem_swList.1 hs).1
    rw [hl] at h1
    rw [dist2_symm] at ih h1
    rw [dist2_symm]
    have h2 := swDo_dist (m := m) (ys := xs) (mem_swList.1 hs).1
    rw [hl] at h2
    have := b1_not (cellF y s.a s.c ^^ cellF xs s.a s.c)
    have := b1_not (cellF y s.a s.d ^^ cellF xs s.a s.d)
    have := b1_not (cellF y s.b s.c ^^ cellF xs s.b s.c)
    have := b1_not (cellF y s.b s.d ^^ cellF xs s.b s.d)
    omega
end Go.Proofs.YtkcdoacojiilaaaGreat

-- Walks: the sums of two images compared; their distance.
namespace Go.Proofs.YtkcdoacojiilaaaGreat
open Go.RowKit
set_option maxRecDepth 100000

/-- two valid images of one size -/
def sizeB (W : Int) (xs : List Int) (V : Int) (ys : List Int) : Bool := okB W xs && okB V ys && decide (W = V) && decide (xs.length = ys.length)
set_option maxHeartbeats 4000000 in
theorem sameSize_c (W : Int) (A : Option Addr) (n c : Nat) (xs : List Int) (V : Int) (B : Option Addr) (p d : Nat) (ys : List Int) (w : World) (hr : Rd w A n xs) (hn : n ≤ 1073741824) (hq : Rd w B p ys) (hp : p ≤ 1073741824) :
    Calls Tryz.prog 54 #[.agg #[.int .i64 W, .slice A n c], .agg #[.int .i64 V, .slice B p d]] w fun e w' => e = .returned (.bool (sizeB W xs V ys)) ∧ Below w.heap.size w w' := by
  have hA0 := (Blk.new w 27 #[.int .i64 W, .slice A n c]).alloc (.cells #[.int .i64 V, .slice B p d] 27)
  have hC0 := heap_at2 w (.cells #[.int .i64 W, .slice A n c] 27) 27 #[.int .i64 V, .slice B p d]
  have hL0 := lo_alloc (lo_alloc (Below.refl w.heap.size w) (.cells #[.int .i64 W, .slice A n c] 27)) (.cells #[.int .i64 V, .slice B p d] 27)
  have hT := Lib.hid (show sizeB W xs V ys = (okB W xs && okB V ys && decide (W = V) && decide (n = p)) by rw [sizeB, hr.1, hq.1])
  cases hk : okB W xs with
  | false =>
    go_enter Tryz.func54, Tryz.ntmps54
    go_wp2_with fail
    refine (impl_ImageValid_c _ _ _ _ xs _ (hr.next hL0) (by omega)).mono ?_
    rw [hk]
    rintro e w1 ⟨rfl, hb1⟩
    have hT2 := Lib.hid (show sizeB W xs V ys = false from hT.out.trans (by simp [hk]))
    go_wp2
    go_ret
    exact ⟨by rw [hT2.out]; rfl, lo_trans hL0 hb1⟩
  | true =>
  cases hj : okB V ys with
  | false =>
    go_enter Tryz.func54, Tryz.ntmps54
    go_wp2_with fail
    refine (impl_ImageValid_c _ _ _ _ xs _ (hr.next hL0) (by omega)).mono ?_
    rw [hk]
    rintro e w1 ⟨rfl, hb1⟩
    have hT2 := Lib.hid (hT.out.trans (by simp [hj] : _ = false))
    have hL1 := lo_trans hL0 hb1
    have hC1 := hC0.next hb1
    have c0 := hC1.cell 0
    have c1 := hC1.cell 1
    go_wp2_with fail
    refine (impl_ImageValid_c _ _ _ _ ys _ (hq.next hL1) (by omega)).mono ?_
    rw [hj]
    rintro e w2 ⟨rfl, hb2⟩
    go_wp2
    go_ret
    exact ⟨by rw [hT2.out]; rfl, lo_trans hL1 hb2⟩
  | true =>
  have hT2 := Lib.hid (show sizeB W xs V ys = (decide (W = V) && decide (n = p)) from hT.out.trans (by rw [hk, hj]; simp))
  go_enter Tryz.func54, Tryz.ntmps54
  go_wp2_with fail
  refine (impl_ImageValid_c _ _ _ _ xs _ (hr.next hL0) (by omega)).mono ?_
  rw [hk]
  rintro e w1 ⟨rfl, hb1⟩
  have hL1 := lo_trans hL0 hb1
  have hC1 := hC0.next hb1
  have hA1 := hA0.next hb1
  have c0 := hC1.cell 0
  have c1 := hC1.cell 1
  clear hk hA0 hC0 hL0 hb1
  go_wp2_with fail
  refine (impl_ImageValid_c _ _ _ _ ys _ (hq.next hL1) (by omega)).mono ?_
  rw [hj]
  rintro e w2 ⟨rfl, hb2⟩
  have hL2 := lo_trans hL1 hb2
  have hC2 := hC1.next hb2
  have hA2 := hA1.next hb2
  clear hj hA1 hC1 hL1 hb2 c0 c1
  have a0 := hA2.cell 0
  have a1 := hA2.cell 1
  have c0 := hC2.cell 0
  have c1 := hC2.cell 1
  by_cases hWV : W = V
  · by_cases hnp : n = p
    · have hT3 := Lib.hid (hT2.out.trans (by simp [hWV, hnp] : _ = true))
      have hnp' : (n : Int) = (p : Int) := by omega
      clear hnp
      go_wp2
      go_ret
      exact ⟨by rw [hT3.out]; rfl, hL2⟩
    · have hT3 := Lib.hid (hT2.out.trans (by simp [hnp] : _ = false))
      have hnp' : ((n : Int) == (p : Int)) = false := beq_eq_false_iff_ne.2 (by omega)
      clear hnp
      go_wp2
      go_ret
      exact ⟨by rw [hT3.out]; rfl, hL2⟩
  · have hT3 := Lib.hid (hT2.out.trans (by simp [hWV] : _ = false))
    go_wp2
    go_ret
    exact ⟨by rw [hT3.out]; rfl, hL2⟩


theorem sizeB_out {W V : Int} {xs ys : List Int} (h : sizeB W xs V ys = true) : ∃ m : Nat, W = m ∧ V = m ∧ okB (m : Int) xs = true ∧ okB (m : Int) ys = true ∧ xs.length = ys.length := by
  simp only [sizeB, Bool.and_eq_true, decide_eq_true_eq] at h
  obtain ⟨⟨⟨h1, h2⟩, rfl⟩, h4⟩ := h
  obtain ⟨m, rfl⟩ := Int.eq_ofNat_of_zero_le (show 0 ≤ W by have := okB_bd h1; omega)
  exact ⟨m, rfl, rfl, h1, h2, h4⟩
theorem sizeB_mk {m : Nat} {xs ys : List Int} (h1 : okB (m : Int) xs = true) (h2 : okB (m : Int) ys = true) (h3 : xs.length = ys.length) : sizeB (m : Int) xs (m : Int) ys = true := by
  simp [sizeB, h1, h2, h3]

/-- SumsFit -/
def sFit (W : Int) (xs r c : List Int) : Bool := okB W xs && decide (rSums W xs = r) && decide (cSums W xs = c)
set_option maxHeartbeats 4000000 in
theorem SumsFit_c (W : Int) (A : Option Addr) (n c : Nat) (xs : List Int) (R C : Option Addr) (p d q e : Nat) (rs cs : List Int) (w : World) (hr : Rd w A n xs) (hn : n ≤ 1073741824) (hp : Rd w R p rs) (hq : Rd w C q cs) :
    Calls Tryz.prog 11 #[.agg #[.int .i64 W, .slice A n c], .slice R p d, .slice C q e] w fun e w' => e = .returned (.bool (sFit W xs rs cs)) ∧ Below w.heap.size w w' := by
  have hT := Lib.hid (show sFit W xs rs cs = (okB W xs && decide (rSums W xs = rs) && decide (cSums W xs = cs)) from rfl)
  have hA0 := Blk.new w 27 #[.int .i64 W, .slice A n c]
  have hL0 := lo_alloc (Below.refl w.heap.size w) (.cells #[.int .i64 W, .slice A n c] 27)
  cases hk : okB W xs with
  | false =>
    go_enter Tryz.func11, Tryz.ntmps11
    go_wp2_with fail
    refine (impl_ImageValid_c _ _ _ _ xs _ (hr.next hL0) (by omega)).mono ?_
    rw [hk]
    rintro e w1 ⟨rfl, hb1⟩
    have hT2 := Lib.hid (hT.out.trans (by simp [hk] : _ = false))
    go_wp2
    go_ret
    exact ⟨by rw [hT2.out]; rfl, lo_trans hL0 hb1⟩
  | true =>
  go_enter Tryz.func11, Tryz.ntmps11
  go_wp2_with fail
  refine (impl_ImageValid_c _ _ _ _ xs _ (hr.next hL0) (by omega)).mono ?_
  rw [hk]
  rintro e w1 ⟨rfl, hb1⟩
  have hk' := Lib.hid hk; clear hk
  have hA1 := hA0.next hb1
  have hL1 := lo_trans hL0 hb1
  clear hA0 hL0 hb1
  have a0 := hA1.cell 0
  have a1 := hA1.cell 1
  go_wp2_with fail
  refine (RowSums_c _ _ _ _ xs _ (hr.next hL1) (by omega)).mono ?_
  rintro e w2 ⟨R2, r2, d2, rfl, hb2, hO2⟩
  have hA2 := hA1.next hb2
  have hL2 := lo_trans hL1 hb2
  have hrl : r2 ≤ 1073741824 := by
    have h1 := hO2.1
    have h2 := hr.1
    simp only [rSums, hk'.out, if_true, rsum, List.length_map] at h1
    omega
  clear hA1 hL1 hb2 a0 a1
  go_wp2_with fail
  refine (slicesEqual_c _ _ _ _ _ _ _ rs _ hO2.rd (hp.next hL2) hrl).mono ?_
  rintro e w3 ⟨rfl, hb3⟩
  have hA3 := hA2.next hb3
  have hL3 := lo_trans hL2 hb3
  clear hA2 hL2 hb3 hO2 hrl
  by_cases h1 : rSums W xs = rs
  · have d1 : decide (rSums W xs = rs) = true := decide_eq_true h1
    have hT2 := Lib.hid (hT.out.trans (by rw [hk'.out, d1]; rfl : _ = decide (cSums W xs = cs)))
    clear h1
    have a0 := hA3.cell 0
    have a1 := hA3.cell 1
    go_wp2_with fail
    refine (ColSums_c _ _ _ _ xs _ (hr.next hL3) (by omega)).mono ?_
    rintro e w4 ⟨R4, r4, d4, rfl, hb4, hO4⟩
    have hL4 := lo_trans hL3 hb4
    have hcl : r4 ≤ 1073741824 := by
      have h1 := hO4.1
      have h2 := okB_bd hk'.out
      simp only [cSums, hk'.out, if_true, csum, List.length_map, List.length_range] at h1
      omega
    clear hb4 hL3 a0 a1
    go_wp2_with fail
    refine (slicesEqual_c _ _ _ _ _ _ _ cs _ hO4.rd (hq.next hL4) hcl).mono ?_
    rintro e w5 ⟨rfl, hb5⟩
    have hT3 := hT2.out
    go_wp2
    go_ret
    exact ⟨by rw [hT3]; rfl, lo_trans hL4 hb5⟩
  · have d1 : decide (rSums W xs = rs) = false := decide_eq_false h1
    have hT2 := Lib.hid (hT.out.trans (by rw [d1]; simp : _ = false))
    clear h1
    go_wp2
    go_ret
    exact ⟨by rw [hT2.out]; rfl, hL3⟩
end Go.Proofs.YtkcdoacojiilaaaGreat

-- Walks: the sums of two images compared; their distance (2).
namespace Go.Proofs.YtkcdoacojiilaaaGreat
open Go.RowKit
set_option maxRecDepth 100000

theorem rSums_len (W : Int) (xs : List Int) : (rSums W xs).length ≤ 6 := by
  cases h : okB W xs with
  | false => simp [rSums, h]
  | true => have := okB_bd h; simp [rSums, h, rsum]; omega
theorem cSums_len (W : Int) (xs : List Int) : (cSums W xs).length ≤ 6 := by
  cases h : okB W xs with
  | false => simp [cSums, h]
  | true => have := okB_bd h; simp [cSums, h, csum]; omega
/-- SumsSame -/
def sameB (W : Int) (xs : List Int) (V : Int) (ys : List Int) : Bool := sizeB W xs V ys && sFit W xs (rSums V ys) (cSums V ys)

set_option maxHeartbeats 8000000 in
theorem SumsSame_c (W : Int) (A : Option Addr) (n c : Nat) (xs : List Int) (V : Int) (B : Option Addr) (p d : Nat) (ys : List Int) (w : World) (hr : Rd w A n xs) (hn : n ≤ 1073741824) (hq : Rd w B p ys) (hp : p ≤ 1073741824) :
    Calls Tryz.prog 30 #[.agg #[.int .i64 W, .slice A n c], .agg #[.int .i64 V, .slice B p d]] w fun e w' => e = .returned (.bool (sameB W xs V ys)) ∧ Below w.heap.size w w' := by
  have hT := Lib.hid (show sameB W xs V ys = (sizeB W xs V ys && sFit W xs (rSums V ys) (cSums V ys)) from rfl)
  have hL0 := lo_alloc (lo_alloc (Below.refl w.heap.size w) (.cells #[.int .i64 W, .slice A n c] 27)) (.cells #[.int .i64 V, .slice B p d] 27)
  have hA0 := (Blk.new w 27 #[.int .i64 W, .slice A n c]).alloc (.cells #[.int .i64 V, .slice B p d] 27)
  have hC0 := heap_at2 w (.cells #[.int .i64 W, .slice A n c] 27) 27 #[.int .i64 V, .slice B p d]
  have hr0 := (hr.next hL0).drew
  have hq0 := (hq.next hL0).drew
  have a0 := hA0.cell 0
  have a1 := hA0.cell 1
  have c0 := hC0.cell 0
  have c1 := hC0.cell 1
  cases hs : sizeB W xs V ys with
  | false =>
    have hT2 := Lib.hid (hT.out.trans (by rw [hs]; rfl : _ = false))
    go_enter Tryz.func30, Tryz.ntmps30
    go_wp2
    go_region_with ((go_at_call 54; refine (sameSize_c _ _ _ _ xs _ _ _ _ ys _ hr0 hn hq0 hp).mono ?_; rw [hs]; rintro e w1 ⟨rfl, hb1⟩))
    all_goals
      go_simp
      go_wp2
      go_ret
      exact ⟨by rw [hT2.out]; rfl, lo_trans (Below.drew hL0) hb1⟩
  | true =>
    have hT2 := Lib.hid (hT.out.trans (by rw [hs]; rfl : _ = sFit W xs (rSums V ys) (cSums V ys)))
    go_enter Tryz.func30, Tryz.ntmps30
    go_wp2
    go_region_held3 (fun w' => w'.cell? ⟨w.heap.size, 0, none⟩ = some (.int .i64 W) ∧ w'.cell? ⟨w.heap.size, 1, none⟩ = some (.slice A n c) ∧ w'.cell? ⟨w.heap.size + 1, 0, none⟩ = some (.int .i64 V) ∧ w'.cell? ⟨w.heap.size + 1, 1, none⟩ = some (.slice B p d))
      (first
        | go_keep
        | exact ⟨(hA0.drew.next hLr).cell 0, (hA0.drew.next hLr).cell 1, (hC0.drew.next hLr).cell 0, (hC0.drew.next hLr).cell 1⟩)
      (first
        | (go_at_call 54
           refine (sameSize_c _ _ _ _ xs _ _ _ _ ys _ hr0 hn hq0 hp).mono ?_
           rw [hs]
           rintro e w1 ⟨rfl, hLr⟩)
        | (go_at_call 28
           refine (RowSums_c _ _ _ _ ys _ (hq0.next hLr) (by omega)).mono ?_
           rintro e w1 ⟨R1, r1, d1, rfl, hb1, hR⟩
           have hR := hR.rd
           try (have hC := hC.next hb1)
           have hLr := lo_trans hLr hb1)
        | (go_at_call 29
           refine (ColSums_c _ _ _ _ ys _ (hq0.next hLr) (by omega)).mono ?_
           rintro e w2 ⟨R2, r2, d2, rfl, hb1, hC⟩
           have hC := hC.rd
           try (have hR := hR.next hb1)
           have hLr := lo_trans hLr hb1)
        | (go_at_call 11
           refine (SumsFit_c _ _ _ _ xs _ _ _ _ _ _ (rSums V ys) (cSums V ys) _ (hr0.next hLr) hn hR hC).mono ?_
           rintro e w3 ⟨rfl, hb3⟩
           have hLr := lo_trans hLr hb3))
    all_goals
      go_wp2
      go_ret
      exact ⟨by rw [hT2.out]; rfl, lo_trans (Below.drew hL0) hLr⟩
end Go.Proofs.YtkcdoacojiilaaaGreat

-- Walks: the distance of two images.
namespace Go.Proofs.YtkcdoacojiilaaaGreat
open Go.RowKit
set_option maxRecDepth 100000

/-- the first k rows compared -/
def distK (xs ys : List Int) (k : Nat) : Nat := sumN k (fun i => pop ((xs[i]?.getD 0).toNat ^^^ (ys[i]?.getD 0).toNat))
theorem distK_le (xs ys : List Int) (k : Nat) : distK xs ys k ≤ k * 6 := sumN_le_mul fun _ _ => pop_le _

set_option maxHeartbeats 4000000 in
theorem distance_c (m n c d : Nat) (A B : Option Addr) (xs ys : List Int) (w : World) (hr : Rd w A n xs) (hq : Rd w B n ys) (hx : okB (m : Int) xs = true) (hy : okB (m : Int) ys = true) :
    Calls Tryz.prog 56 #[.agg #[.int .i64 m, .slice A n c], .agg #[.int .i64 m, .slice B n d]] w fun e w' => e = .returned (.int .i64 (distX xs ys)) ∧ Below w.heap.size w w' := by
  have hbd := okB_bd hx
  rw [hr.1] at hbd
  have hx' := Lib.hid hx; have hy' := Lib.hid hy; clear hx hy
  have hxl := Lib.hid hr.1
  have hyl := Lib.hid hq.1
  have hL0 := lo_alloc (lo_alloc (Below.refl w.heap.size w) (.cells #[.int .i64 m, .slice A n c] 27)) (.cells #[.int .i64 m, .slice B n d] 27)
  have hA0 := (Blk.new w 27 #[.int .i64 m, .slice A n c]).alloc (.cells #[.int .i64 m, .slice B n d] 27)
  have hC0 := heap_at2 w (.cells #[.int .i64 m, .slice A n c] 27) 27 #[.int .i64 m, .slice B n d]
  have hr0 := hr.next hL0
  have hq0 := hq.next hL0
  have a1 := hA0.cell 1
  have c1 := hC0.cell 1
  go_enter Tryz.func56, Tryz.ntmps56
  go_wp2
  generalize (w.alloc (.cells #[.int .i64 m, .slice A n c] 27)).alloc (.cells #[.int .i64 m, .slice B n d] 27) = w0 at hL0 hA0 hC0 hr0 hq0 a1 c1 ⊢
  clear a1 c1
  go_loopw [5, 11] (fun s i wr => ∃ k : Nat, k ≤ n ∧ i = .int .i64 k ∧ s = .int .i64 (distK xs ys k) ∧ Below w0.heap.size w0 wr) (fun _ i _ => n - (intOf i).toNat)
  case atStart => exact ⟨0, Nat.zero_le _, rfl, rfl, Below.refl _ _⟩
  case round =>
    obtain ⟨k, hk, rfl, rfl, hbl⟩ := hrel
    by_cases hlt : k < n
    · obtain ⟨b, off, rfl, hb, hc⟩ := (hr0.next hbl).at_ hlt
      obtain ⟨b', off', rfl, hb', hc'⟩ := (hq0.next hbl).at_ hlt
      obtain ⟨r, x1, x2⟩ := okB_cell hx'.out (i := k) (by rw [hxl.out]; exact hlt)
      obtain ⟨s, y1, y2⟩ := okB_cell hy'.out (i := k) (by rw [hyl.out]; exact hlt)
      have hpm := pow_le64 (j := m) (by omega)
      have hN := Lib.hid (show distK xs ys (k + 1) = distK xs ys k + pop (r ^^^ s) by simp only [distK, sumN, x1, y1, Int.toNat_natCast])
      rw [x1] at hc
      rw [y1] at hc'
      have hxo := i64_xor_nat r s (by omega) (by omega)
      have hd := distK_le xs ys k
      have hp := pop_le (r ^^^ s)
      have hx64 : r ^^^ s < 64 := Nat.xor_lt_two_pow (n := 6) (by omega) (by omega)
      clear x1 x2 y1 y2 hpm
      have c1 := (hC0.next hbl).cell 1
      generalize distK xs ys k = dk at hN hd ⊢
      go_wp2_with (first | (go_at_call 53; refine (ones_c (r ^^^ s) _ hx64).mono ?_; rintro e w' ⟨rfl, rfl⟩))
      go_roundw
      case rel => exact ⟨k + 1, by omega, by go_num, by rw [hN.out]; go_num, hbl⟩
      case measure => simp [intOf]; omega
    · obtain rfl : k = n := by omega
      have hF := Lib.hid (show distX xs ys = distK xs ys k by unfold distX distK; rw [hxl.out])
      go_wp2
      go_ret
      exact ⟨by rw [hF.out]; rfl, lo_trans hL0 hbl⟩

/-- ImageDistance -/
def distW (W : Int) (xs : List Int) (V : Int) (ys : List Int) : Int := if sizeB W xs V ys then (distX xs ys : Int) else -1
end Go.Proofs.YtkcdoacojiilaaaGreat

-- Walks: the list of an image's switches.
namespace Go.Proofs.YtkcdoacojiilaaaGreat
open Go.RowKit Go.Shelf
attribute [local go_sem] Oper.semAt_some
set_option maxRecDepth 100000

theorem wplIn_appendR {F : Fence} {n : Nat} {P : Program} {w w' : World} {ops : Array Oper} {rest : List Oper} {o : Oper} {a : Act} {Q : Exit → Act → World → Prop}
    (hg : o.guard = none) (s x : Operand) (t : TypeId) (hop : o.op = Op.call { callee := Callee.builtin Builtin.append, args := #[s, x], argTypes := #[t, t] })
    (v v' xv : Value) (hs : a.eval s = v) (hx : a.eval x = xv) (hrun : (Builtin.append_ #[t, t] o.type #[v, xv]).run P w = .ok v' w')
    (hK : wpListIn F n P ops Q rest (a.put o.dst v') w') : wpListIn F n P ops Q (o :: rest) a w := by
  refine wpListIn_plain hg fun K hK' => ?_
  unfold Oper.wpIn
  refine ⟨?_, ?_⟩
  · simp [Oper.about, hop, resolve, Target.leads, Sem.run_pure]
  · rw [Oper.semAt_plain F _ _ (by rw [hop]; intro c hc'; cases hc')]
    simp [execOp, hop, resolve, invoke, builtin, hs, hx, hrun, Result.andThen]
    exact hK' _ _ hK
theorem appendW_run (w : World) (base : Nat) (A : Option Addr) (c n : Nat) (ss : List Sw) (hn : n = ss.length) (hb : BufW w base A c ss) (b d : Nat) (e : Sw) (hr : Blk w b 50 #[.int .i64 (e.a : Int), .int .i64 (e.b : Int), .int .i64 (e.c : Int), .int .i64 (e.d : Int)]) (hlen : n + 1 ≤ 1048576) (hbase : base ≤ w.heap.size) (ty : TypeId) :
    ∃ g c' w', (Builtin.append_ #[32, 32] ty #[.slice A n c, .slice (some ⟨b, 0, none⟩) 1 d]).run Tryz.prog w = .ok (.slice (some ⟨g, 0, none⟩) (n + 1) c') w' ∧ BufW w' base (some ⟨g, 0, none⟩) c' (ss ++ [e]) ∧ w.grownBy w' (rowA A) ∧ (A = some ⟨g, 0, none⟩ ∨ g = w.heap.size) := by
  obtain ⟨i0, hi, hz0, hz1, hz2⟩ := info_parts infoSw
  subst hn
  obtain ⟨g, cap, w', hrun, hown, hg, hat, _⟩ := run_append_lies (P := Tryz.prog) w 32 ty base 50 i0 (.agg #[.int .i64 0, .int .i64 0, .int .i64 0, .int .i64 0]) 4 32 Tryz.underlying32 hi hz0 hz1 hz2 rfl (by decide) _ ss.length _ hb ⟨b, 0, none⟩ 1 d e.cells rfl
    (by
      intro j u hu
      rw [Go.WideShapes.add_plain, hr.cell, Nat.zero_add]
      simpa [Sw.cells] using hu) (fun u hu => swCells_one [e] u (by simpa [swCells] using hu)) (by omega) (by unfold maxLen; omega) (by omega) hbase _ rfl
  refine ⟨g, cap, w', hrun, ?_, by cases A <;> exact hg, ?_⟩
  · unfold BufW
    rw [List.length_append, swCells_snoc]
    exact hown
  · rcases hat with h1 | h1
    · cases A with
      | none => simp [Value.ownBlock] at h1
      | some a =>
        rcases hb.form with ⟨e, _⟩ | ⟨g', cs, e, _⟩
        · cases e
        · injection e with e; subst e
          simp [Value.ownBlock] at h1
          exact .inl (by rw [h1])
    · exact .inr h1
theorem BufW.ownF {W W' : World} {lo c : Nat} {A : Option Addr} {ss : List Sw} {row : Option Nat} (h : BufW W lo A c ss) (hg : W.grownBy W' row) (hr : ∀ r, row = some r → ∃ o : Obj, W.heap[r]? = some o ∧ o.isCells = false) : BufW W' lo A c ss := by
  refine h.kept hg ?_
  rintro g rfl e
  rcases h.form with ⟨e', _⟩ | ⟨g', cs, e', _, hb, _⟩
  · cases e'
  · cases e'
    exact hb.cells_ne (hr g e) rfl
theorem rowAW_ne {w : World} {base c o : Nat} {A : Option Addr} {ss : List Sw} (h : BufW w base A c ss) (ho : o < base) : some o ≠ rowA A := by
  intro e
  have := h.row o e.symm
  omega
theorem rowAW_cells {w : World} {base c : Nat} {A : Option Addr} {ss : List Sw} (h : BufW w base A c ss) : ∀ g, rowA A = some g → ∃ t cs, Blk w g t cs := by
  intro g hg
  rcases h.form with ⟨rfl, _⟩ | ⟨g', cs, rfl, _, hb, _⟩
  · simp [rowA] at hg
  · simp [rowA] at hg
    subst hg
    exact ⟨_, _, hb⟩

/-- the list so far, in the box o -/
def LInv (W : World) (o base : Nat) (ss : List Sw) : Prop := ∃ R c', Blk W o 32 #[.slice R ss.length c'] ∧ BufW W base R c' ss

theorem LInv.step {W W3 : World} {o base gB cB c' : Nat} {R : Option Addr} {ss : List Sw} {x : Sw} {bx : Obj} (hO : Blk W o 32 #[.slice R ss.length c']) (hB : BufW W base R c' ss) (ho : o < base) (hbW : base ≤ W.heap.size)
    (hB3 : BufW W3 base (some ⟨gB, 0, none⟩) cB (ss ++ [x])) (hg3 : (W.alloc bx).grownBy W3 (rowA R)) :
    LInv (W3.setCell ⟨o, 0, none⟩ (.slice (some ⟨gB, 0, none⟩) (ss.length + 1) cB)) o base (ss ++ [x]) ∧ KeepsOthers W (W3.setCell ⟨o, 0, none⟩ (.slice (some ⟨gB, 0, none⟩) (ss.length + 1) cB)) ∧
      (∀ b, b < base → b ≠ o → KB b W (W3.setCell ⟨o, 0, none⟩ (.slice (some ⟨gB, 0, none⟩) (ss.length + 1) cB))) ∧ W.heap.size ≤ (W3.setCell ⟨o, 0, none⟩ (.slice (some ⟨gB, 0, none⟩) (ss.length + 1) cB)).heap.size ∧
      (∀ {a : World}, Below a.heap.size a W → a.heap.size ≤ o → Below a.heap.size a (W3.setCell ⟨o, 0, none⟩ (.slice (some ⟨gB, 0, none⟩) (ss.length + 1) cB))) := by
  have hbx := lo_alloc (Below.refl W.heap.size W) bx
  have hBx := hB.next hbx
  have hz2 := hbx.size
  have hO3 := (hO.next hbx).grown hg3 (rowAW_ne hB ho)
  have hrow : ∀ g, rowA R = some g → base ≤ g := fun g h => (hB.row g h).1
  refine ⟨⟨some ⟨gB, 0, none⟩, cB, ?_, ?_⟩, ?_, ?_, ?_, ?_⟩
  · have := hO3.set_ 0 (.slice (some ⟨gB, 0, none⟩) (ss.length + 1) cB)
    simpa using this
  · exact hB3.kept (grown_set (g := o) (k := 0) _) (by rintro g ⟨⟩ e; injection e with e; have := (hB3.lt _ rfl).1; omega)
  · have h1 : KeepsOthers W (W.alloc bx) := keeps_below hbx
    have h2 : KeepsOthers (W.alloc bx) W3 := keepsO_grown hg3 (rowAW_cells hBx)
    have h3 : KeepsOthers W3 (W3.setCell ⟨o, 0, none⟩ (.slice (some ⟨gB, 0, none⟩) (ss.length + 1) cB)) := keepsO_grown (grown_set (g := o) (k := 0) _) (by rintro g ⟨⟩; exact ⟨_, _, hO3⟩)
    exact (h1.trans h2).trans h3
  · intro b hb hne
    have h1 : KB b W (W.alloc bx) := KB.of_below hbx (by omega)
    have h2 : KB b (W.alloc bx) W3 := KB.of_grown hg3 (by omega) (fun e => by have := hrow b e; omega)
    exact h1.trans (h2.trans (Below.heap_setCell _ _ _ _ (by simpa using hne)))
  · rw [size_setCell]
    exact Nat.le_trans hz2 hg3.size
  · intro a hB hao
    exact lo_set (lo_grown (lo_trans hB hbx) hg3 (fun g hg => by have := hrow g hg; omega)) (p := ⟨o, 0, none⟩) hao _

/-- SwitchMany -/
def swManyW (W : Int) (xs : List Int) : Int := if okB W xs then ((swListW W xs).length : Int) else -1
end Go.Proofs.YtkcdoacojiilaaaGreat

-- Plain: the neighbors are different, have the same sums, and differ in four cells.
namespace Go.Proofs.YtkcdoacojiilaaaGreat

theorem nodup_flatMap' {α β : Type} {l : List α} {f : α → List β} (h1 : ∀ a ∈ l, (f a).Nodup) (h2 : l.Pairwise (fun a b => ∀ x ∈ f a, ∀ y ∈ f b, x ≠ y)) : (l.flatMap f).Nodup :=
  List.pairwise_flatMap.2 ⟨h1, h2⟩
theorem range_pw {n : Nat} {R : Nat → Nat → Prop} (h : ∀ i j, i < j → R i j) : (List.range n).Pairwise R := List.Pairwise.imp (fun {a b} hab => h a b hab) List.pairwise_lt_range
theorem range'_pw {s n : Nat} {R : Nat → Nat → Prop} (h : ∀ i j, i < j → R i j) : (List.range' s n).Pairwise R := List.Pairwise.imp (fun {a b} hab => h a b hab) List.pairwise_lt_range'
theorem map_pw {α β : Type} {l : List α} {f : α → β} (h : l.Pairwise (fun a b => f a ≠ f b)) : (l.map f).Nodup := List.pairwise_map.2 h
theorem swAll_nodup (h m : Nat) : (swAll h m).Nodup := by
  refine nodup_flatMap' (fun a _ => nodup_flatMap' (fun b _ => nodup_flatMap' (fun c _ => map_pw (range'_pw fun i j hij e => ?_)) (range_pw fun i j hij x hx y hy e => ?_)) (range'_pw fun i j hij x hx y hy e => ?_)) (range_pw fun i j hij x hx y hy e => ?_)
  · injection e with _ _ _ e; omega
  · have h1 := (mem_swL.1 hx).2.2.1
    have h2 := (mem_swL.1 hy).2.2.1
    rw [e] at h1; omega
  · have h1 := (mem_swC.1 hx).2.1
    have h2 := (mem_swC.1 hy).2.1
    rw [e] at h1; omega
  · have h1 := (mem_swB.1 hx).1
    have h2 := (mem_swB.1 hy).1
    rw [e] at h1; omega
theorem inSw_iff {s : Sw} {i j : Nat} : inSw s i j = true ↔ (i = s.a ∨ i = s.b) ∧ (j = s.c ∨ j = s.d) := by simp [inSw]
theorem swDo_inj {m : Nat} {xs : List Int} {s t : Sw} (hs : s ∈ swList m xs) (ht : t ∈ swList m xs) (e : swDo m xs s = swDo m xs t) : s = t := by
  obtain ⟨⟨a1, a2, a3, a4⟩, _⟩ := mem_swList.1 hs
  obtain ⟨⟨b1, b2, b3, b4⟩, _⟩ := mem_swList.1 ht
  have key : ∀ i j, i < xs.length → j < m → inSw s i j = inSw t i j := by
    intro i j hi hj
    have h1 := congrArg (fun l => cellF l i j) e
    simp only [swDo_cell hi hj] at h1
    revert h1
    cases cellF xs i j <;> cases inSw s i j <;> cases inSw t i j <;> simp
  have k1 := inSw_iff.1 ((key s.a s.c (by omega) (by omega)).symm.trans (inSw_in ⟨.inl rfl, .inl rfl⟩))
  have k2 := inSw_iff.1 ((key s.b s.d (by omega) (by omega)).symm.trans (inSw_in ⟨.inr rfl, .inr rfl⟩))
  obtain ⟨sa, sb, sc, sd⟩ := s
  obtain ⟨ta, tb, tc, td⟩ := t
  dsimp only at *
  have e1 : sa = ta := by omega
  have e2 : sb = tb := by omega
  have e3 : sc = tc := by omega
  have e4 : sd = td := by omega
  rw [e1, e2, e3, e4]
theorem nbrs_nodup (m : Nat) (xs : List Int) : (nbrs m xs).Nodup := by
  refine map_pw ?_
  have h : (swList m xs).Nodup := List.Pairwise.filter _ (swAll_nodup _ _)
  refine List.Pairwise.imp_of_mem (fun {a b} ha hb hab e => hab (swDo_inj ha hb e)) h
theorem nbr_same {m : Nat} {xs y : List Int} (h : okB (m : Int) xs = true) (hy : y ∈ nbrs m xs) : sameB (m : Int) xs (m : Int) y = true := by
  obtain ⟨h1, h2⟩ := nbrs_ok h hy
  obtain ⟨s, hs, rfl⟩ := List.mem_map.1 hy
  have h3 := swDo_sums h hs
  have h4 := sizeB_mk h h1 h2.symm
  simp [sameB, sFit, h4, h, h3.1, h3.2]
theorem nbr_dist2 {m : Nat} {xs y : List Int} (hy : y ∈ nbrs m xs) : dist2 xs.length m (cellF xs) (cellF y) = 4 := by
  obtain ⟨s, hs, rfl⟩ := List.mem_map.1 hy
  have h3 := swDo_dist (ys := xs) (mem_swList.1 hs).1
  rw [dist2_self (f := cellF xs) (g := cellF xs) (fun _ _ _ _ => rfl)] at h3
  simp only [Bool.xor_self, Bool.not_false, b1, if_true, Bool.false_eq_true, if_false] at h3
  rw [dist2_symm]
  omega
theorem nbr_dist {m : Nat} {xs y : List Int} (h : okB (m : Int) xs = true) (hy : y ∈ nbrs m xs) : distW (m : Int) xs (m : Int) y = 4 := by
  obtain ⟨h1, h2⟩ := nbrs_ok h hy
  rw [distW, if_pos (sizeB_mk h h1 h2.symm), distX_eq h h1 h2.symm, nbr_dist2 hy]
  rfl
theorem sameB_iff' {m : Nat} {xs ys : List Int} (hx : okB (m : Int) xs = true) (hy : okB (m : Int) ys = true) (hl : xs.length = ys.length) : sameB (m : Int) xs (m : Int) ys = true ↔ rSums (m : Int) xs = rSums (m : Int) ys ∧ cSums (m : Int) xs = cSums (m : Int) ys := by
  simp [sameB, sFit, sizeB_mk hx hy hl, hx]
theorem nbrs_len_sw (m : Nat) (xs : List Int) : (nbrs m xs).length = (swList m xs).length := by simp [nbrs]
theorem swMany_nbrs {m : Nat} {xs : List Int} (h : okB (m : Int) xs = true) : swManyW (m : Int) xs = ((nbrs m xs).length : Int) := by
  simp [swManyW, swListW, h, nbrs_len_sw]
theorem nodup_get {l : List (List Int)} (h : l.Nodup) {i k : Nat} {x y : List Int} (hi : l[i]? = some x) (hk : l[k]? = some y) (hne : k < i) : x ≠ y := by
  rintro rfl
  obtain ⟨h1, e1⟩ := List.getElem?_eq_some_iff.1 hi
  obtain ⟨h2, e2⟩ := List.getElem?_eq_some_iff.1 hk
  have := (List.pairwise_iff_getElem.1 h) k i h2 h1 hne
  exact this (by rw [e1, e2])
theorem reach_more {m : Nat} {xs : List Int} (h : okB (m : Int) xs = true) : (nbrs m xs).length < (reach m xs).length := by
  have h1 : (xs :: nbrs m xs).Nodup := List.nodup_cons.2 ⟨fun hm => nbr_ne hm rfl, nbrs_nodup m xs⟩
  have h2 := nodup_sub (l' := (reach m xs).map (·.1)) h1 (fun y hy => by
    rcases List.mem_cons.1 hy with rfl | hy
    · exact reach_first h
    · obtain ⟨f, hf, rfl, _⟩ := reach_all h (Path.step .nil hy)
      exact List.mem_map.2 ⟨f, hf, rfl⟩)
  rw [List.length_cons, List.length_map] at h2
  omega
theorem nbrs_turn_le {m : Nat} {xs : List Int} (h : okB (m : Int) xs = true) : (nbrs m xs).length ≤ (nbrs xs.length (turnL m xs)).length := by
  have hd : ((nbrs m xs).map (turnL m)).Nodup := map_pw (List.Pairwise.imp_of_mem (fun {a b} ha hb hab e => hab (turnL_inj (nbrs_ok h ha).1 (nbrs_ok h hb).1 (by rw [(nbrs_ok h ha).2, (nbrs_ok h hb).2]) e)) (nbrs_nodup m xs))
  have := nodup_sub hd (l' := nbrs xs.length (turnL m xs)) (fun y hy => by
    obtain ⟨z, hz, rfl⟩ := List.mem_map.1 hy
    exact turnL_nbr hz)
  rwa [List.length_map] at this
theorem nbrs_turn {m : Nat} {xs : List Int} (h : okB (m : Int) xs = true) : (nbrs xs.length (turnL m xs)).length = (nbrs m xs).length := by
  have h1 := nbrs_turn_le h
  have h2 := nbrs_turn_le (turnL_ok h)
  rw [turnL_len, turnL_back h] at h2
  omega
theorem nbr_distX {m : Nat} {xs y : List Int} (h : okB (m : Int) xs = true) (hy : y ∈ nbrs m xs) : distX xs y = 4 := by
  obtain ⟨h1, h2⟩ := nbrs_ok h hy
  rw [distX_eq h h1 h2.symm, nbr_dist2 hy]
theorem path_one {m k : Nat} {xs y : List Int} (h : okB (m : Int) xs = true) (hy : y ∈ nbrs m xs) (hp : Path m xs y k) (he : xs = y ∧ k = 0 ∨ 2 * k + 2 ≤ distX xs y) : k = 1 := by
  have hne := nbr_ne hy
  rw [nbr_distX h hy] at he
  rcases he with ⟨e, _⟩ | he
  · exact absurd e.symm hne
  · rcases Nat.eq_zero_or_pos k with h0 | h0
    · subst h0
      cases hp
      exact absurd rfl hne
    · omega
end Go.Proofs.YtkcdoacojiilaaaGreat

-- Walks: the nested image is built; how many images have given row sums.
namespace Go.Proofs.YtkcdoacojiilaaaGreat
open Go.RowKit
set_option maxRecDepth 100000

theorem allIn_nat {hi : Int} {xs : List Int} (h : allIn 0 hi xs = true) {k : Nat} (hk : k < xs.length) : ∃ q : Nat, xs[k]?.getD 0 = (q : Int) ∧ (q : Int) ≤ hi := by
  have h1 := allIn_at h k hk
  exact ⟨(xs[k]?.getD 0).toNat, by omega, by omega⟩

def prodN : Nat → (Nat → Nat) → Nat
  | 0, _ => 1
  | n + 1, F => prodN n F * F n
theorem prodN_le {c : Nat} {F : Nat → Nat} (h : ∀ i, F i ≤ c) : ∀ n, prodN n F ≤ c ^ n
  | 0 => by simp [prodN]
  | n + 1 => by
    simp only [prodN, Nat.pow_succ]
    exact Nat.mul_le_mul (prodN_le h n) (h n)
/-- how many of the first k rows have r set cells -/
def rowCnt (r : Int) (k : Nat) : Nat := (List.range k).countP (fun x => decide ((pop x : Int) = r))
theorem rowCnt_succ (r : Int) (k : Nat) : rowCnt r (k + 1) = rowCnt r k + (if (pop k : Int) = r then 1 else 0) := by
  simp [rowCnt, List.range_succ, List.countP_append, List.countP_singleton]
theorem rowCnt_le (r : Int) (k : Nat) : rowCnt r k ≤ k := by
  have h : rowCnt r k ≤ (List.range k).length := List.countP_le_length
  simpa using h
/-- CountAll -/
def cAll (m : Nat) (xs : List Int) (k : Nat) : Nat := prodN k (fun i => rowCnt (xs[i]?.getD 0) (2 ^ m))
theorem cAll_le {m : Nat} (hm : m ≤ 6) (xs : List Int) {k : Nat} (hk : k ≤ 6) : cAll m xs k ≤ 68719476736 := by
  have h1 : cAll m xs k ≤ 64 ^ k := prodN_le (fun i => Nat.le_trans (rowCnt_le _ _) (pow_le64 hm)) k
  have h2 : 64 ^ k ≤ 64 ^ 6 := Nat.pow_le_pow_right (by omega) hk
  omega

end Go.Proofs.YtkcdoacojiilaaaGreat

-- Plain: no more images are reached than there are images with the row sums.
namespace Go.Proofs.YtkcdoacojiilaaaGreat

theorem prodN_head (n : Nat) (F : Nat → Nat) : prodN (n + 1) F = F 0 * prodN n (fun i => F (i + 1)) := by
  induction n with
  | zero => simp [prodN]
  | succ n ih =>
    rw [show prodN (n + 1 + 1) F = prodN (n + 1) F * F (n + 1) from rfl, ih, show prodN (n + 1) (fun i => F (i + 1)) = prodN n (fun i => F (i + 1)) * F (n + 1) from rfl, Nat.mul_assoc]
def rowsOf (m : Nat) (r : Int) : List Int := ((List.range (2 ^ m)).filter (fun x => decide ((pop x : Int) = r))).map (fun (x : Nat) => (x : Int))
theorem rowsOf_len (m : Nat) (r : Int) : (rowsOf m r).length = rowCnt r (2 ^ m) := by
  rw [rowsOf, List.length_map, rowCnt, List.countP_eq_length_filter]
/-- all images with these row sums -/
def imgsOf (m : Nat) : List Int → List (List Int)
  | [] => [[]]
  | r :: rs => (rowsOf m r).flatMap (fun x => (imgsOf m rs).map (fun l => x :: l))
theorem flatMap_const_len {α β : Type} {f : α → List β} {c : Nat} : ∀ (l : List α), (∀ x, (f x).length = c) → (l.flatMap f).length = l.length * c
  | [], _ => by simp
  | x :: l, h => by rw [List.flatMap_cons, List.length_append, h x, flatMap_const_len l h, List.length_cons, Nat.succ_mul, Nat.add_comm]
theorem imgsOf_len (m : Nat) : ∀ rs : List Int, (imgsOf m rs).length = cAll m rs rs.length
  | [] => rfl
  | r :: rs => by
    rw [imgsOf, flatMap_const_len (c := (imgsOf m rs).length) _ (fun x => by rw [List.length_map]), rowsOf_len, imgsOf_len m rs, cAll, cAll, List.length_cons, prodN_head]
    rfl
theorem imgsOf_mem (m : Nat) : ∀ ys : List Int, (∀ y ∈ ys, 0 ≤ y ∧ y.toNat < 2 ^ m) → ys ∈ imgsOf m (ys.map (fun x => (pop x.toNat : Int)))
  | [], _ => by simp [imgsOf]
  | y :: ys, h => by
    have h1 := h y (List.mem_cons_self ..)
    have h2 := imgsOf_mem m ys (fun z hz => h z (List.mem_cons_of_mem _ hz))
    simp only [List.map_cons, imgsOf, List.mem_flatMap, List.mem_map]
    refine ⟨y, ?_, ys, h2, rfl⟩
    simp only [rowsOf, List.mem_map, List.mem_filter, List.mem_range, decide_eq_true_eq]
    exact ⟨y.toNat, ⟨h1.2, rfl⟩, by omega⟩
theorem reach_less {m : Nat} {xs : List Int} (h : okB (m : Int) xs = true) : (reach m xs).length ≤ cAll m (rSums (m : Int) xs) xs.length := by
  have e : rSums (m : Int) xs = rsum xs := by simp [rSums, h]
  have h1 := nodup_sub (l' := imgsOf m (rsum xs)) (reach_nodup m xs) (fun y hy => by
    obtain ⟨f, hf, rfl⟩ := List.mem_map.1 hy
    have hp := reach_path hf
    have h2 := path_ok h hp
    have h3 := (path_sums h hp).1
    simp only [rSums, h, h2.1, if_true] at h3
    rw [← h3]
    exact imgsOf_mem m _ (okB_cells h2.1))
  rw [imgsOf_len, List.length_map] at h1
  rw [e]
  have h4 : (rsum xs).length = xs.length := by simp [rsum]
  rwa [h4] at h1
theorem rSums_in {m : Nat} {xs : List Int} (h : okB (m : Int) xs = true) : sIn (m : Int) (rSums (m : Int) xs) = true := by
  have hb := okB_bd h
  have e : rSums (m : Int) xs = rsum xs := by simp [rSums, h]
  rw [e]
  refine sIn_yes (by simp [rsum]; omega) (by simp [rsum]; omega) (allIn_of fun k hk => ?_)
  have hk' : k < xs.length := by simpa [rsum] using hk
  obtain ⟨r, h1, h2⟩ := okB_cell h hk'
  simp only [List.getElem?_eq_getElem hk', Option.getD_some] at h1
  have h3 : pop r ≤ m := by
    rw [pop_sumN (by omega) h2]
    have := sumN_le_mul (n := m) (c := 1) (F := fun j => b1 (r.testBit j)) (fun j _ => b1_le _)
    omega
  simp only [rsum, List.getElem?_map, List.getElem?_eq_getElem hk', Option.map_some, Option.getD_some, h1, Int.toNat_natCast]
  omega
end Go.Proofs.YtkcdoacojiilaaaGreat
