/- Plain facts and walks that the law's proof uses; each says its own conditions. -/
-- Plain mathematics: sorting by insertion; a list in descending order.
namespace Go.Proofs.YtpeiolimdglmhaaGreatDoor

section
variable {α : Type} (lt : α → α → Bool)
/-- a new last element moved toward the front, on the reversed list -/
def bub (x : α) : List α → List α
  | [] => [x]
  | y :: r => if lt x y then y :: bub x r else x :: y :: r
/-- insertion sort, on the reversed list -/
def isr (xs : List α) : List α := xs.foldl (fun r x => bub lt x r) []
def isort (xs : List α) : List α := (isr lt xs).reverse
end
theorem bub_perm {α : Type} (lt : α → α → Bool) (x : α) : ∀ r : List α, (bub lt x r).Perm (x :: r)
  | [] => .refl _
  | y :: r => by
    unfold bub
    split
    · exact ((bub_perm lt x r).cons y).trans (.swap x y r)
    · exact .refl _
theorem isr_snoc {α : Type} (lt : α → α → Bool) (xs : List α) (x : α) : isr lt (xs ++ [x]) = bub lt x (isr lt xs) := by simp [isr]
theorem isr_perm {α : Type} (lt : α → α → Bool) (xs : List α) : (isr lt xs).Perm xs := by
  have key : ∀ (xs r : List α), (xs.foldl (fun r x => bub lt x r) r).Perm (r ++ xs) := by
    intro xs
    induction xs with
    | nil => intro r; simp
    | cons x xs ih =>
      intro r
      refine (ih (bub lt x r)).trans ?_
      refine ((bub_perm lt x r).append_right xs).trans ?_
      rw [List.cons_append]
      exact List.perm_middle.symm
  simpa [isr] using key xs []
theorem isr_len {α : Type} (lt : α → α → Bool) (xs : List α) : (isr lt xs).length = xs.length := (isr_perm lt xs).length_eq
theorem isort_perm {α : Type} (lt : α → α → Bool) (xs : List α) : (isort lt xs).Perm xs := (List.reverse_perm _).trans (isr_perm lt xs)
theorem isort_len {α : Type} (lt : α → α → Bool) (xs : List α) : (isort lt xs).length = xs.length := (isort_perm lt xs).length_eq
/-- how far it moves -/
theorem bub_at {α : Type} (lt : α → α → Bool) (x : α) : ∀ (r : List α) (d : Nat), d ≤ r.length → (∀ i y, i < d → r[i]? = some y → lt x y = true) → (∀ y, r[d]? = some y → lt x y = false) → bub lt x r = r.take d ++ x :: r.drop d
  | [], d, hd, _, _ => by
    obtain rfl : d = 0 := by simpa using hd
    rfl
  | y :: r, 0, _, _, h => by
    have := h y rfl
    simp [bub, this]
  | y :: r, d + 1, hd, h1, h2 => by
    have e := h1 0 y (by omega) rfl
    have ih := bub_at lt x r d (by simpa using hd) (fun i z hi hz => h1 (i + 1) z (by omega) (by simpa using hz)) (fun z hz => h2 z (by simpa using hz))
    simp [bub, e, ih]
/-- in order, and what is alike stands as it stood -/
theorem isr_sorted {α : Type} (lt : α → α → Bool) (ha : ∀ x y, lt x y = true → lt y x = false) (hn : ∀ x y z, lt x y = false → lt y z = false → lt x z = false) (T : α → α → Prop) :
    ∀ (r : List α) (x : α), r.Pairwise (fun b a => lt b a = false ∧ (lt a b = false → T a b)) → (∀ y ∈ r, T y x) → (bub lt x r).Pairwise (fun b a => lt b a = false ∧ (lt a b = false → T a b))
  | [], x, _, _ => by simp [bub]
  | y :: r, x, hp, hT => by
    unfold bub
    rw [List.pairwise_cons] at hp
    split
    · rename_i hxy
      refine List.pairwise_cons.2 ⟨fun z hz => ?_, isr_sorted lt ha hn T r x hp.2 (fun z hz => hT z (List.mem_cons_of_mem _ hz))⟩
      rcases List.mem_cons.1 ((bub_perm lt x r).mem_iff.1 hz) with rfl | hz
      · exact ⟨ha _ _ hxy, fun h => by rw [hxy] at h; cases h⟩
      · exact hp.1 z hz
    · rename_i hxy
      have hxy' : lt x y = false := by simpa using hxy
      refine List.pairwise_cons.2 ⟨fun z hz => ?_, List.pairwise_cons.2 hp⟩
      rcases List.mem_cons.1 hz with rfl | hz'
      · exact ⟨hxy', fun _ => hT _ (List.mem_cons_self ..)⟩
      · exact ⟨hn _ _ _ hxy' (hp.1 z hz').1, fun _ => hT z hz⟩
theorem isort_sorted {α : Type} (lt : α → α → Bool) (ha : ∀ x y, lt x y = true → lt y x = false) (hn : ∀ x y z, lt x y = false → lt y z = false → lt x z = false) (T : α → α → Prop) (xs : List α) (hT : xs.Pairwise T) :
    (isort lt xs).Pairwise (fun a b => lt b a = false ∧ (lt a b = false → T a b)) := by
  have key : ∀ (xs r : List α), xs.Pairwise T → r.Pairwise (fun b a => lt b a = false ∧ (lt a b = false → T a b)) → (∀ x ∈ xs, ∀ y ∈ r, T y x) → (xs.foldl (fun r x => bub lt x r) r).Pairwise (fun b a => lt b a = false ∧ (lt a b = false → T a b)) := by
    intro xs
    induction xs with
    | nil => intro r _ h _; exact h
    | cons x xs ih =>
      intro r hx h hm
      rw [List.pairwise_cons] at hx
      refine ih (bub lt x r) hx.2 (isr_sorted lt ha hn T r x h (hm x (List.mem_cons_self ..))) (fun z hz y hy => ?_)
      rcases List.mem_cons.1 ((bub_perm lt x r).mem_iff.1 hy) with rfl | hy
      · exact hx.1 z hz
      · exact hm z (List.mem_cons_of_mem _ hz) y hy
  exact List.pairwise_reverse.2 (key xs [] hT (by simp) (by simp))

/-- in descending order -/
def dsort (xs : List Int) : List Int := isort (fun x y => decide (y < x)) xs
theorem dsort_perm (xs : List Int) : (dsort xs).Perm xs := isort_perm _ xs
theorem dsort_len (xs : List Int) : (dsort xs).length = xs.length := isort_len _ xs
theorem dsort_sorted (xs : List Int) : (dsort xs).Pairwise (fun a b => b ≤ a) :=
  (isort_sorted (fun x y => decide (y < x)) (by simp; omega) (by simp; omega) (fun _ _ => True) xs (List.pairwise_of_forall (fun _ _ => trivial))).imp (fun h => by simpa using h.1)
theorem perm_sum {xs ys : List Int} (h : xs.Perm ys) : xs.sum = ys.sum := by
  induction h with
  | nil => rfl
  | cons x _ ih => simp [ih]
  | swap x y l => simp; omega
  | trans _ _ ih1 ih2 => rw [ih1, ih2]
/-- the sum over all columns of the lesser one of the column sum and t -/
def mSum (cols : List Int) (t : Int) : Int := (cols.map (fun c => min c t)).sum
/-- the t greatest -/
def tSum (rows : List Int) (t : Nat) : Int := ((dsort rows).take t).sum
/-- the row while x moves: d places so far -/
def sAt {α : Type} (r : List α) (x : α) (rest : List α) (d : Nat) : List α := (r.drop d).reverse ++ x :: ((r.take d).reverse ++ rest)
theorem sAt_x {α : Type} (r : List α) (x : α) (rest : List α) {d : Nat} (_ : d ≤ r.length) : (sAt r x rest d)[r.length - d]? = some x := by
  unfold sAt
  rw [List.getElem?_append_right (by simp)]
  simp
theorem sAt_y {α : Type} (r : List α) (x : α) (rest : List α) {d : Nat} (h : d < r.length) : (sAt r x rest d)[r.length - d - 1]? = some r[d] := by
  unfold sAt
  rw [List.getElem?_append_left (by simp; omega), List.getElem?_reverse (by simp; omega)]
  simp only [List.length_drop]
  rw [List.getElem?_drop, show d + (r.length - d - 1 - (r.length - d - 1)) = d by omega]
  exact List.getElem?_eq_getElem h
theorem sAt_swap {α : Type} (r : List α) (x : α) (rest : List α) {d : Nat} (h : d < r.length) : ((sAt r x rest d).set (r.length - d) r[d]).set (r.length - d - 1) x = sAt r x rest (d + 1) := by
  have e : r.drop d = r[d] :: r.drop (d + 1) := List.drop_eq_getElem_cons h
  have e2 : r.take (d + 1) = r.take d ++ [r[d]] := List.take_succ_eq_append_getElem h
  unfold sAt
  rw [e2, e]
  simp only [List.reverse_cons, List.reverse_append, List.reverse_nil, List.nil_append, List.append_assoc, List.cons_append]
  rw [List.set_append_right _ _ (by simp; omega), List.set_append_right _ _ (by simp; omega)]
  simp only [List.length_reverse, List.length_drop]
  rw [show r.length - d - (r.length - (d + 1)) = 1 by omega, show r.length - d - 1 - (r.length - (d + 1)) = 0 by omega]
  rfl
theorem sAt_zero {α : Type} (r : List α) (x : α) (rest : List α) : sAt r x rest 0 = r.reverse ++ x :: rest := by simp [sAt]
theorem sAt_end {α : Type} {lt : α → α → Bool} {r : List α} {x : α} (rest : List α) {d : Nat} (h : bub lt x r = r.take d ++ x :: r.drop d) : sAt r x rest d = (bub lt x r).reverse ++ rest := by
  rw [h]; simp [sAt]
end Go.Proofs.YtpeiolimdglmhaaGreatDoor
