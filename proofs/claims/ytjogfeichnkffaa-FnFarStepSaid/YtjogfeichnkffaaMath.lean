
/- Plain mathematics of images of cells: rows as numbers. No program, no memory. -/
namespace Go.Proofs.Ytjogfeichnkffaa

/-- the row whose cell j is set as f tells, for all j below n -/
def mkRow (f : Nat → Bool) : Nat → Nat
  | 0 => 0
  | j + 1 => mkRow f j + (if f j then 2 ^ j else 0)

theorem mkRow_lt (f : Nat → Bool) (n : Nat) : mkRow f n < 2 ^ n := by
  induction n with
  | zero => simp [mkRow]
  | succ n ih =>
    simp only [mkRow, Nat.pow_succ]
    split <;> omega

theorem add_pow_testBit {r n : Nat} (h : r < 2 ^ n) (j : Nat) : (r + 2 ^ n).testBit j = (r.testBit j || decide (j = n)) := by
  rw [Nat.add_comm]
  by_cases hj : j = n
  · subst hj
    rw [Nat.testBit_two_pow_add_eq, Nat.testBit_lt_two_pow h]; simp
  · rcases Nat.lt_or_ge j n with hl | hg
    · rw [Nat.testBit_two_pow_add_gt hl]; simp [hj]
    · have h1 : r < 2 ^ j := Nat.lt_of_lt_of_le h (Nat.pow_le_pow_right (by omega) hg)
      have h2 : 2 ^ n + r < 2 ^ j := by
        have : 2 ^ (n + 1) ≤ 2 ^ j := Nat.pow_le_pow_right (by omega) (by omega)
        rw [Nat.pow_succ] at this; omega
      rw [Nat.testBit_lt_two_pow h1, Nat.testBit_lt_two_pow h2]; simp [hj]

theorem testBit_mkRow (f : Nat → Bool) (n j : Nat) : (mkRow f n).testBit j = (decide (j < n) && f j) := by
  induction n with
  | zero => simp [mkRow]
  | succ n ih =>
    simp only [mkRow]
    by_cases hf : f n = true
    · rw [if_pos hf, add_pow_testBit (mkRow_lt f n), ih]
      by_cases hj : j = n
      · subst hj; simp [hf]
      · by_cases h1 : j < n
        · simp [h1, hj, show j < n + 1 by omega]
        · simp [h1, hj, show ¬ j < n + 1 by omega]
    · rw [if_neg hf, Nat.add_zero, ih]
      by_cases hj : j = n
      · subst hj; simp [hf]
      · by_cases h1 : j < n
        · simp [h1, show j < n + 1 by omega]
        · simp [h1, show ¬ j < n + 1 by omega]

theorem row_ext {a b n : Nat} (ha : a < 2 ^ n) (hb : b < 2 ^ n) (h : ∀ j, j < n → a.testBit j = b.testBit j) : a = b := by
  apply Nat.eq_of_testBit_eq
  intro j
  rcases Nat.lt_or_ge j n with hl | hg
  · exact h j hl
  · rw [Nat.testBit_lt_two_pow (Nat.lt_of_lt_of_le ha (Nat.pow_le_pow_right (by omega) hg)), Nat.testBit_lt_two_pow (Nat.lt_of_lt_of_le hb (Nat.pow_le_pow_right (by omega) hg))]

theorem mkRow_testBit {r n : Nat} (h : r < 2 ^ n) : mkRow r.testBit n = r :=
  row_ext (mkRow_lt _ _) h fun j hj => by rw [testBit_mkRow]; simp [hj]
theorem mkRow_congr {f g : Nat → Bool} {n : Nat} (h : ∀ j, j < n → f j = g j) : mkRow f n = mkRow g n :=
  row_ext (mkRow_lt _ _) (mkRow_lt _ _) fun j hj => by rw [testBit_mkRow, testBit_mkRow, h j hj]
theorem mkRow_step_t {f : Nat → Bool} {j : Nat} (h : f j = true) : mkRow f (j + 1) = mkRow f j + 2 ^ j := by simp [mkRow, h]
theorem mkRow_step_f {f : Nat → Bool} {j : Nat} (h : f j = false) : mkRow f (j + 1) = mkRow f j := by simp [mkRow, h]
theorem mkRow_xor (f : Nat → Bool) (j : Nat) : mkRow f j ^^^ 2 ^ j = mkRow f j + 2 ^ j := by
  apply Nat.eq_of_testBit_eq
  intro i
  rw [Nat.testBit_xor, add_pow_testBit (mkRow_lt f j), Nat.testBit_two_pow]
  by_cases h : i = j
  · subst h; simp [Nat.testBit_lt_two_pow (mkRow_lt f i)]
  · simp [h, show ¬ j = i from fun e => h e.symm]
theorem mkRow_div (f : Nat → Bool) (j : Nat) : mkRow f j / 2 ^ j = 0 := Nat.div_eq_of_lt (mkRow_lt f j)
theorem mkRow_lt64 (f : Nat → Bool) (j : Nat) (h : j ≤ 6) : mkRow f j < 64 := by
  have h1 := mkRow_lt f j
  have h2 : 2 ^ j ≤ 2 ^ 6 := Nat.pow_le_pow_right (by omega) h
  omega
theorem pow_le64 {j : Nat} (h : j ≤ 6) : 2 ^ j ≤ 64 := Nat.pow_le_pow_right (n := 2) (by omega) h

theorem pow_int {j : Nat} (h : j ≤ 6) : (1 : Int) ≤ 2 ^ j ∧ (2 : Int) ^ j ≤ 64 := by
  have h1 := pow_le64 h
  have h2 : 0 < 2 ^ j := Nat.pow_pos (by omega)
  have e : ((2 ^ j : Nat) : Int) = (2 : Int) ^ j := by simp
  omega

/-- the image of h rows and w columns whose cells are set as f tells -/
def img (f : Nat → Nat → Bool) (h w : Nat) : List Int := (List.range h).map (fun k => (mkRow (f k) w : Int))
/-- the same while it is filled: all rows below i, and j cells of row i -/
def st (f : Nat → Nat → Bool) (h w i j : Nat) : List Int := (List.range h).map (fun k => if k < i then (mkRow (f k) w : Int) else if k = i then (mkRow (f k) j : Int) else 0)
theorem img_len (f : Nat → Nat → Bool) (h w : Nat) : (img f h w).length = h := by simp [img]
theorem st_len (f : Nat → Nat → Bool) (h w i j : Nat) : (st f h w i j).length = h := by simp [st]
theorem img_get {f : Nat → Nat → Bool} {h w i : Nat} (hi : i < h) : (img f h w)[i]?.getD 0 = (mkRow (f i) w : Int) := by simp [img, hi]
theorem img_get' {f : Nat → Nat → Bool} {h w i : Nat} (hi : i < h) : (img f h w)[i]? = some (mkRow (f i) w : Int) := by simp [img, hi]
theorem st_get {f : Nat → Nat → Bool} {h w i j : Nat} (hi : i < h) : (st f h w i j)[i]?.getD 0 = (mkRow (f i) j : Int) := by simp [st, hi]
theorem st_zero (f : Nat → Nat → Bool) (h w : Nat) : st f h w 0 0 = List.replicate h 0 := by
  apply List.ext_getElem
  · simp [st]
  · intro i h1 h2; simp [st, mkRow]
theorem st_next (f : Nat → Nat → Bool) (h w i : Nat) : st f h w i w = st f h w (i + 1) 0 := by
  apply List.map_congr_left
  intro k _
  by_cases h1 : k < i
  · simp [h1, show k < i + 1 by omega]
  · by_cases h2 : k = i
    · simp [h2]
    · by_cases h3 : k = i + 1
      · simp [h3, mkRow, show ¬ i + 1 < i by omega]
      · simp [h1, h2, h3, show ¬ k < i + 1 by omega]
theorem st_done (f : Nat → Nat → Bool) (h w : Nat) : st f h w h 0 = img f h w := by
  apply List.map_congr_left
  intro k hk
  simp [List.mem_range.1 hk]
theorem st_set {f : Nat → Nat → Bool} {h w i j : Nat} : (st f h w i j).set i (mkRow (f i) (j + 1) : Int) = st f h w i (j + 1) := by
  apply List.ext_getElem
  · simp [st]
  · intro k h1 h2
    rw [List.getElem_set]
    by_cases h : i = k
    · subst h; simp [st]
    · rw [if_neg h]; simp [st, show ¬ k = i from fun e => h e.symm]
theorem st_same {f : Nat → Nat → Bool} {h w i j : Nat} (hf : f i j = false) : st f h w i (j + 1) = st f h w i j := by
  apply List.map_congr_left
  intro k _
  by_cases h2 : k = i
  · subst h2; simp [mkRow_step_f hf]
  · simp [h2]
theorem img_congr {f g : Nat → Nat → Bool} {h w : Nat} (e : ∀ i, i < h → ∀ j, j < w → f i j = g i j) : img f h w = img g h w := by
  apply List.map_congr_left
  intro k hk
  rw [mkRow_congr (e k (List.mem_range.1 hk))]
/-- all numbers of a list lie in a range -/
def allIn (lo hi : Int) (p : List Int) : Bool := p.all (fun x => decide (lo ≤ x) && decide (x ≤ hi))
theorem allIn_at {lo hi : Int} {p : List Int} (h : allIn lo hi p = true) (k : Nat) (hk : k < p.length) : lo ≤ p[k]?.getD 0 ∧ p[k]?.getD 0 ≤ hi := by
  simp only [allIn, List.all_eq_true, Bool.and_eq_true, decide_eq_true_eq] at h
  simpa [List.getElem?_eq_getElem hk] using h p[k] (List.getElem_mem hk)
theorem allIn_of {lo hi : Int} {p : List Int} (h : ∀ k, k < p.length → lo ≤ p[k]?.getD 0 ∧ p[k]?.getD 0 ≤ hi) : allIn lo hi p = true := by
  simp only [allIn, List.all_eq_true, Bool.and_eq_true, decide_eq_true_eq]
  intro x hx
  obtain ⟨i, hi, rfl⟩ := List.getElem_of_mem hx
  simpa [List.getElem?_eq_getElem hi] using h i hi
theorem allIn_no {lo hi : Int} {p : List Int} {k : Nat} (hk : k < p.length) (h : ¬ (lo ≤ p[k]?.getD 0 ∧ p[k]?.getD 0 ≤ hi)) : allIn lo hi p = false := by
  cases e : allIn lo hi p with
  | false => rfl
  | true => exact absurd (allIn_at e k hk) h

/-- weights: 1 to 6 numbers from -99 to 99 -/
def wIn (p : List Int) : Bool := decide (1 ≤ p.length) && decide (p.length ≤ 6) && p.all (fun x => decide (-99 ≤ x) && decide (x ≤ 99))
def wF (p q : List Int) (i j : Nat) : Bool := decide (0 < p[i]?.getD 0 + q[j]?.getD 0)
def wSum (p q : List Int) : Bool := p.all (fun x => q.all (fun y => decide (x + y ≠ 0)))
def wOk (p q : List Int) : Bool := wIn p && wIn q && wSum p q
def wW (p q : List Int) : Int := if wOk p q then q.length else 0
def wX (p q : List Int) : List Int := if wOk p q then img (wF p q) p.length q.length else []
theorem wIn_len {p : List Int} (h : wIn p = true) : 1 ≤ p.length ∧ p.length ≤ 6 := by
  simp [wIn] at h; omega
theorem wIn_at {p : List Int} (h : wIn p = true) (k : Nat) (hk : k < p.length) : -99 ≤ p[k]?.getD 0 ∧ p[k]?.getD 0 ≤ 99 := by
  simp only [wIn, Bool.and_eq_true, List.all_eq_true, decide_eq_true_eq] at h
  have := h.2 p[k] (List.getElem_mem hk)
  simpa [List.getElem?_eq_getElem hk] using this
theorem wSum_at {p q : List Int} (h : wSum p q = true) (i j : Nat) (hi : i < p.length) (hj : j < q.length) : p[i]?.getD 0 + q[j]?.getD 0 ≠ 0 := by
  simp only [wSum, List.all_eq_true, decide_eq_true_eq] at h
  have := h p[i] (List.getElem_mem hi) q[j] (List.getElem_mem hj)
  simpa [List.getElem?_eq_getElem hi, List.getElem?_eq_getElem hj] using this
theorem wSum_of {p q : List Int} (h : ∀ i j, i < p.length → j < q.length → p[i]?.getD 0 + q[j]?.getD 0 ≠ 0) : wSum p q = true := by
  simp only [wSum, List.all_eq_true, decide_eq_true_eq]
  intro x hx y hy
  obtain ⟨i, hi, rfl⟩ := List.getElem_of_mem hx
  obtain ⟨j, hj, rfl⟩ := List.getElem_of_mem hy
  simpa [List.getElem?_eq_getElem hi, List.getElem?_eq_getElem hj] using h i j hi hj
theorem wSum_no {p q : List Int} {i j : Nat} (hi : i < p.length) (hj : j < q.length) (h : p[i]?.getD 0 + q[j]?.getD 0 = 0) : wSum p q = false := by
  cases e : wSum p q with
  | false => rfl
  | true => exact absurd h (wSum_at e i j hi hj)
theorem wIn_def (p : List Int) : wIn p = (decide (1 ≤ p.length) && decide (p.length ≤ 6) && allIn (-99) 99 p) := rfl
theorem wOk_len {p q : List Int} (h : ¬ (1 ≤ p.length ∧ p.length ≤ 6 ∧ 1 ≤ q.length ∧ q.length ≤ 6)) : wOk p q = false := by
  cases e : wOk p q with
  | false => rfl
  | true =>
    simp only [wOk, Bool.and_eq_true] at e
    have h1 := wIn_len e.1.1
    have h2 := wIn_len e.1.2
    omega
theorem wX_len (p q : List Int) : (wX p q).length ≤ 6 := by
  unfold wX
  split
  · rename_i h
    simp only [wOk, Bool.and_eq_true] at h
    rw [img_len]; exact (wIn_len h.1.1).2
  · simp
theorem wOk_all {p q : List Int} (h : allIn (-99) 99 p = false ∨ allIn (-99) 99 q = false) : wOk p q = false := by
  rcases h with h | h <;> simp [wOk, wIn_def, h]
theorem wOk_yes {p q : List Int} (h : 1 ≤ p.length ∧ p.length ≤ 6 ∧ 1 ≤ q.length ∧ q.length ≤ 6) (h1 : allIn (-99) 99 p = true) (h2 : allIn (-99) 99 q = true) : wOk p q = wSum p q := by
  simp [wOk, wIn_def, h1, h2, h]
end Go.Proofs.Ytjogfeichnkffaa
