
/- Plain mathematics: the cells of an image, row by row; the image turned. -/
import Derived.Test.YtjogfeichnkffaaMathB
namespace Go.Proofs.Ytjogfeichnkffaa

/-- rows as integers -/
def nats (rs : List Nat) : List Int := rs.map (fun (x : Nat) => (x : Int))
theorem nats_img {rs : List Nat} {a c : Nat} (hl : rs.length = a) (hr : ∀ x ∈ rs, x < 2 ^ c) : nats rs = img (fun i j => (rs[i]?.getD 0).testBit j) a c := by
  apply List.ext_getElem
  · simp [nats, img_len, hl]
  · intro i h1 h2
    have hi : i < rs.length := by simpa [nats] using h1
    simp only [nats, img, List.getElem_map, List.getElem_range, List.getElem?_eq_getElem hi, Option.getD_some]
    rw [mkRow_testBit (hr _ (List.getElem_mem hi))]
theorem nats_step {rs : List Nat} {a k x : Nat} (hl : rs.length = k) (hk : k < a) : (nats rs ++ List.replicate (a - k) 0).set k (x : Int) = nats (rs ++ [x]) ++ List.replicate (a - (k + 1)) 0 := by
  rw [show a - k = (a - (k + 1)) + 1 by omega, List.replicate_succ, List.set_append_right _ _ (by simp [nats, hl])]
  simp [nats, hl]

theorem nats_get {rs : List Nat} {i : Nat} (hi : i < rs.length) : (nats rs)[i]?.getD 0 = ((rs[i]?.getD 0 : Nat) : Int) := by
  simp [nats, List.getElem?_eq_getElem hi]
theorem nats_set (rs : List Nat) (i y : Nat) : (nats rs).set i (y : Int) = nats (rs.set i y) := by simp [nats, List.map_set]
theorem nats_len (rs : List Nat) : (nats rs).length = rs.length := by simp [nats]
theorem img_nats (f : Nat → Nat → Bool) (h m : Nat) : img f h m = nats ((List.range h).map (fun k => mkRow (f k) m)) := by
  simp [img, nats]
/-- a cell of an image of h rows and m columns -/
abbrev Cell (h m : Nat) : Type := { x : Nat × Nat // x.1 < h ∧ x.2 < m }
/-- the first j cells of row i -/
def cRow (h m i j : Nat) : List (Cell h m) := (List.range j).filterMap (fun b => if e : i < h ∧ b < m then some ⟨(i, b), e⟩ else none)
/-- the cells before (i, j), row by row -/
def cUpto (h m : Nat) : Nat → Nat → List (Cell h m)
  | 0, j => cRow h m 0 j
  | i + 1, j => cUpto h m i m ++ cRow h m (i + 1) j
theorem cRow_zero (h m i : Nat) : cRow h m i 0 = [] := rfl
theorem cRow_succ {h m i j : Nat} (hi : i < h) (hj : j < m) : cRow h m i (j + 1) = cRow h m i j ++ [⟨(i, j), hi, hj⟩] := by
  simp [cRow, List.range_succ, List.filterMap_append, hi, hj]
theorem cUpto_succ {h m i j : Nat} (hi : i < h) (hj : j < m) : cUpto h m i (j + 1) = cUpto h m i j ++ [⟨(i, j), hi, hj⟩] := by
  cases i with
  | zero => simp only [cUpto]; exact cRow_succ hi hj
  | succ i => simp only [cUpto]; rw [cRow_succ hi hj, List.append_assoc]
theorem cUpto_next (h m i : Nat) : cUpto h m (i + 1) 0 = cUpto h m i m := by simp [cUpto, cRow_zero]
theorem cUpto_zero (h m : Nat) : cUpto h m 0 0 = [] := rfl
theorem cRow_len (h m i j : Nat) : (cRow h m i j).length ≤ j := by
  have := List.length_filterMap_le (fun b => if e : i < h ∧ b < m then some (⟨(i, b), e⟩ : Cell h m) else none) (List.range j)
  simpa [cRow] using this
theorem cUpto_len (h m i j : Nat) : (cUpto h m i j).length ≤ i * m + j := by
  induction i generalizing j with
  | zero => simp only [cUpto]; have := cRow_len h m 0 j; omega
  | succ i ih =>
    simp only [cUpto, List.length_append]
    have h1 := ih m
    have h2 := cRow_len h m (i + 1) j
    rw [Nat.succ_mul]; omega

/-- turning: the rows of the turned image when the cells of pre have been looked at -/
def tStep (f : Nat → Nat → Bool) {h m : Nat} (rs : List Nat) (x : Cell h m) : List Nat := if f x.1.1 x.1.2 then rs.set x.1.2 ((rs[x.1.2]?.getD 0) ^^^ 2 ^ x.1.1) else rs
def tRows (f : Nat → Nat → Bool) {h m : Nat} (pre : List (Cell h m)) : List Nat := pre.foldl (tStep f) (List.replicate m 0)
theorem tRows_snoc (f : Nat → Nat → Bool) {h m : Nat} (pre : List (Cell h m)) (x : Cell h m) : tRows f (pre ++ [x]) = tStep f (tRows f pre) x := by simp [tRows]
theorem tRows_len (f : Nat → Nat → Bool) {h m : Nat} (pre : List (Cell h m)) : (tRows f pre).length = m := by
  have key : ∀ (pre : List (Cell h m)) (rs : List Nat), rs.length = m → (pre.foldl (tStep f) rs).length = m := by
    intro pre
    induction pre with
    | nil => intro rs hrs; exact hrs
    | cons x pre ih =>
      intro rs hrs
      refine ih _ ?_
      simp only [tStep]; split <;> simp [hrs]
  exact key pre _ (by simp)
theorem tRows_lt (f : Nat → Nat → Bool) {h m : Nat} (hh : h ≤ 6) (pre : List (Cell h m)) : ∀ x ∈ tRows f pre, x < 64 := by
  have key : ∀ (pre : List (Cell h m)) (rs : List Nat), (∀ x ∈ rs, x < 64) → ∀ x ∈ pre.foldl (tStep f) rs, x < 64 := by
    intro pre
    induction pre with
    | nil => intro rs hrs; exact hrs
    | cons c pre ih =>
      intro rs hrs
      refine ih _ ?_
      simp only [tStep]
      split
      · intro x hx
        rcases List.mem_or_eq_of_mem_set hx with h1 | rfl
        · exact hrs x h1
        · have h2 : rs[c.1.2]?.getD 0 < 2 ^ 6 := by
            rcases Nat.lt_or_ge c.1.2 rs.length with hl | hl
            · rw [List.getElem?_eq_getElem hl]; exact hrs _ (List.getElem_mem hl)
            · rw [List.getElem?_eq_none hl]; simp
          have h3 : 2 ^ c.1.1 < 2 ^ 6 := Nat.pow_lt_pow_right (by omega) (by have := c.2.1; omega)
          exact Nat.xor_lt_two_pow h2 h3
      · exact hrs
  exact key pre _ (by intro x hx; rw [List.mem_replicate] at hx; omega)
/-- what the rows are in between -/
def tMid (f : Nat → Nat → Bool) (m i j : Nat) : List Nat := (List.range m).map (fun c => mkRow (fun t => f t c) (if c < j then i + 1 else i))
theorem tMid_step (f : Nat → Nat → Bool) {h m i j : Nat} (hi : i < h) (hj : j < m) : tStep f (tMid f m i j) (⟨(i, j), hi, hj⟩ : Cell h m) = tMid f m i (j + 1) := by
  simp only [tStep]
  have e0 : (tMid f m i j)[j]?.getD 0 = mkRow (fun t => f t j) i := by simp [tMid, hj]
  by_cases hf : f i j = true
  · rw [if_pos hf, e0, mkRow_xor, ← mkRow_step_t (f := fun t => f t j) hf]
    apply List.ext_getElem
    · simp [tMid]
    · intro k h1 h2
      rw [List.getElem_set]
      by_cases hk : j = k
      · subst hk; simp [tMid]
      · rw [if_neg hk]
        simp only [tMid, List.getElem_map, List.getElem_range]
        have : (k < j) ↔ (k < j + 1) := by omega
        simp only [this]
  · rw [if_neg hf]
    apply List.map_congr_left
    intro k _
    by_cases hk : k = j
    · subst hk
      rw [if_neg (by omega), if_pos (by omega), mkRow_step_f (by simpa using hf)]
    · have : (k < j) ↔ (k < j + 1) := by omega
      simp only [this]
theorem tMid_next (f : Nat → Nat → Bool) (m i : Nat) : tMid f m i m = tMid f m (i + 1) 0 := by
  apply List.map_congr_left
  intro c hc
  rw [if_pos (List.mem_range.1 hc), if_neg (by omega)]
theorem tRows_mid (f : Nat → Nat → Bool) {h m : Nat} : ∀ i j, i < h → j ≤ m → tRows f (cUpto h m i j) = tMid f m i j := by
  have inner : ∀ i, i < h → tRows f (cUpto h m i 0) = tMid f m i 0 → ∀ j, j ≤ m → tRows f (cUpto h m i j) = tMid f m i j := by
    intro i hi h0 j
    induction j with
    | zero => intro _; exact h0
    | succ j ih => intro hj; rw [cUpto_succ hi (by omega), tRows_snoc, ih (by omega), tMid_step f hi (by omega)]
  intro i
  induction i with
  | zero =>
    intro j hi hj
    refine inner 0 hi ?_ j hj
    simp only [cUpto, cRow_zero, tRows, tMid, List.foldl_nil]
    apply List.ext_getElem
    · simp
    · intro k _ _; simp [mkRow]
  | succ i ih =>
    intro j hi hj
    refine inner (i + 1) hi ?_ j hj
    rw [cUpto_next, ih m (by omega) (Nat.le_refl _), tMid_next]
/-- the image turned -/
theorem tRows_done (f : Nat → Nat → Bool) {h m : Nat} (hh : 1 ≤ h) : (tRows f (cUpto h m h 0)).map (fun (x : Nat) => (x : Int)) = img (fun c t => f t c) m h := by
  obtain ⟨k, rfl⟩ : ∃ k, h = k + 1 := ⟨h - 1, by omega⟩
  rw [cUpto_next, tRows_mid f k m (by omega) (Nat.le_refl _), tMid_next]
  simp [tMid, img]
end Go.Proofs.Ytjogfeichnkffaa
