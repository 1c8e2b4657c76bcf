/- Plain facts and walks that the law's proof uses; each says its own conditions. -/
import Derived.Lib.Split
import Derived.Lib.SplitLaws
-- Plain mathematics: the pieces of a text between the bytes that part it; what the library's Split says in these words.
namespace Go.Proofs.YtpeiolimdglmhaaGreatDoor
open Go

/-- the pieces of a text between the bytes c -/
def pcs (c : UInt8) : List UInt8 → List (List UInt8)
  | [] => [[]]
  | x :: s => if x = c then [] :: pcs c s else match pcs c s with
    | [] => [[x]]
    | p :: ps => (x :: p) :: ps
theorem pcs_hit (c : UInt8) (s : List UInt8) : pcs c (c :: s) = [] :: pcs c s := by simp [pcs]
theorem pcs_ne (c : UInt8) : ∀ s : List UInt8, pcs c s ≠ []
  | [] => by simp [pcs]
  | x :: s => by
    unfold pcs
    split
    · simp
    · split <;> simp
theorem pcs_miss {c x : UInt8} (h : x ≠ c) {s p : List UInt8} {ps : List (List UInt8)} (e : pcs c s = p :: ps) : pcs c (x :: s) = (x :: p) :: ps := by
  rw [pcs, if_neg h, e]
theorem pcs_some (c : UInt8) (s : List UInt8) : ∃ p ps, pcs c s = p :: ps := by
  cases e : pcs c s with
  | nil => exact absurd e (pcs_ne c s)
  | cons p ps => exact ⟨p, ps, rfl⟩
theorem pcs_cat (c : UInt8) : ∀ (s t : List UInt8), pcs c (s ++ c :: t) = pcs c s ++ pcs c t
  | [], t => by rw [List.nil_append, pcs_hit]; rfl
  | x :: s, t => by
    rw [List.cons_append]
    by_cases h : x = c
    · subst h
      rw [pcs_hit, pcs_hit, pcs_cat]
      rfl
    · obtain ⟨p, ps, e⟩ := pcs_some c s
      have e2 := pcs_cat c s t
      rw [e] at e2
      rw [pcs_miss h e, pcs_miss h e2]
      rfl
theorem pcs_none {c : UInt8} : ∀ {s : List UInt8}, c ∉ s → pcs c s = [s]
  | [], _ => rfl
  | x :: s, h => by
    have h1 : x ≠ c := fun e => h (by rw [e]; exact List.mem_cons_self ..)
    exact pcs_miss h1 (pcs_none (fun e => h (List.mem_cons_of_mem _ e)))
theorem pcs_len (c : UInt8) : ∀ s : List UInt8, (pcs c s).length ≤ s.length + 1
  | [] => Nat.le_refl _
  | x :: s => by
    have h := pcs_len c s
    by_cases hx : x = c
    · subst hx
      rw [pcs_hit, List.length_cons, List.length_cons]
      omega
    · obtain ⟨q, qs, e⟩ := pcs_some c s
      rw [e, List.length_cons] at h
      rw [pcs_miss hx e, List.length_cons, List.length_cons]
      omega
theorem pcs_piece (c : UInt8) : ∀ (s : List UInt8), ∀ p ∈ pcs c s, p.length ≤ s.length
  | [], p, hp => by
    rw [pcs, List.mem_singleton] at hp
    subst hp
    simp
  | x :: s, p, hp => by
    rw [List.length_cons]
    by_cases h : x = c
    · subst h
      rw [pcs_hit, List.mem_cons] at hp
      rcases hp with rfl | hp
      · simp
      · exact Nat.le_succ_of_le (pcs_piece x s p hp)
    · obtain ⟨q, qs, e⟩ := pcs_some c s
      rw [pcs_miss h e, List.mem_cons] at hp
      rcases hp with rfl | hp
      · rw [List.length_cons]
        exact Nat.succ_le_succ (pcs_piece c s q (by rw [e]; exact List.mem_cons_self ..))
      · exact Nat.le_succ_of_le (pcs_piece c s p (by rw [e]; exact List.mem_cons_of_mem _ hp))
/-- the pieces so far: done ones, and the one that is being read -/
def Pc (c : UInt8) (s : List UInt8) (d : List (List UInt8)) (u : List UInt8) : Prop := pcs c s = d ++ [u]
theorem Pc.nil (c : UInt8) : Pc c [] [] [] := rfl
theorem Pc.hit {c : UInt8} {s : List UInt8} {d : List (List UInt8)} {u : List UInt8} (h : Pc c s d u) : Pc c (s ++ [c]) (d ++ [u]) [] := by
  rw [Pc] at h ⊢
  rw [pcs_cat, h]
  rfl
theorem pcs_snoc {c x : UInt8} (hx : x ≠ c) : ∀ {s : List UInt8} {d : List (List UInt8)} {u : List UInt8}, pcs c s = d ++ [u] → pcs c (s ++ [x]) = d ++ [u ++ [x]]
  | [], d, u, h => by
    cases d with
    | nil =>
      have : u = [] := by simpa [pcs] using h.symm
      subst this
      exact pcs_none (by simpa using fun e => hx e.symm)
    | cons a d =>
      have := congrArg List.length h
      simp [pcs] at this
  | y :: s, d, u, h => by
    rw [List.cons_append]
    by_cases hy : y = c
    · subst hy
      rw [pcs_hit] at h ⊢
      cases d with
      | nil => exact absurd (by simpa using h : [] = u ∧ pcs y s = []).2 (pcs_ne y s)
      | cons a d =>
        rw [List.cons_append, List.cons.injEq] at h
        rw [pcs_snoc hx h.2, h.1]
        rfl
    · obtain ⟨q, qs, e⟩ := pcs_some c s
      rw [pcs_miss hy e] at h
      cases d with
      | nil =>
        rw [List.nil_append, List.cons.injEq] at h
        obtain ⟨h1, h2⟩ := h
        subst h1
        have e2 : pcs c s = [] ++ [q] := by rw [e, h2]; rfl
        rw [pcs_miss hy (pcs_snoc hx e2)]
        rfl
      | cons a d =>
        rw [List.cons_append, List.cons.injEq] at h
        have e2 : pcs c s = (q :: d) ++ [u] := by rw [e, h.2]; rfl
        rw [pcs_miss hy (pcs_snoc hx e2), ← h.1]
        rfl
theorem Pc.miss {c x : UInt8} (hx : x ≠ c) {s : List UInt8} {d : List (List UInt8)} {u : List UInt8} (h : Pc c s d u) : Pc c (s ++ [x]) d (u ++ [x]) := pcs_snoc hx h
theorem pcs_sum {c : UInt8} : ∀ {s : List UInt8} {d : List (List UInt8)} {u : List UInt8}, pcs c s = d ++ [u] → ∃ t, s = t ++ u ∧ t.length = (d.map (fun p => p.length + 1)).sum
  | [], d, u, h => by
    cases d with
    | nil =>
      have : u = [] := by simpa [pcs] using h.symm
      subst this
      exact ⟨[], rfl, rfl⟩
    | cons a d =>
      have := congrArg List.length h
      simp [pcs] at this
  | y :: s, d, u, h => by
    by_cases hy : y = c
    · subst hy
      rw [pcs_hit] at h
      cases d with
      | nil => exact absurd (by simpa using h : [] = u ∧ pcs y s = []).2 (pcs_ne y s)
      | cons a d =>
        rw [List.cons_append, List.cons.injEq] at h
        obtain ⟨t, e, hl⟩ := pcs_sum h.2
        refine ⟨y :: t, by rw [e]; rfl, ?_⟩
        rw [List.map_cons, List.sum_cons, ← hl, ← h.1, List.length_cons, List.length_nil]
        omega
    · obtain ⟨q, qs, e⟩ := pcs_some c s
      rw [pcs_miss hy e] at h
      cases d with
      | nil =>
        rw [List.nil_append, List.cons.injEq] at h
        exact ⟨[], by rw [← h.1, List.nil_append]; have := pcs_sum (d := []) (u := q) (by rw [e, h.2]; rfl : pcs c s = [] ++ [q]); obtain ⟨t, e1, e2⟩ := this; have : t = [] := List.eq_nil_of_length_eq_zero (by simpa using e2); subst this; rw [e1]; rfl, rfl⟩
      | cons a d =>
        rw [List.cons_append, List.cons.injEq] at h
        obtain ⟨t, e1, e2⟩ := pcs_sum (d := q :: d) (u := u) (by rw [e, h.2]; rfl : pcs c s = (q :: d) ++ [u])
        refine ⟨y :: t, by rw [e1]; rfl, ?_⟩
        rw [List.map_cons, List.sum_cons] at e2 ⊢
        rw [← h.1, List.length_cons, List.length_cons, e2]
        omega

theorem splitK_pcs (c : UInt8) : ∀ (k : Nat) (s : List UInt8), s.length ≤ k → Lib.splitK [c] 0 (s.count c) s = pcs c s := by
  intro k
  induction k with
  | zero =>
    intro s hs
    obtain rfl : s = [] := List.eq_nil_of_length_eq_zero (by omega)
    rfl
  | succ k ih =>
    intro s hs
    by_cases hc : c ∈ s
    · obtain ⟨a, b, rfl, ha⟩ : ∃ a b, s = a ++ c :: b ∧ c ∉ a := by
        clear ih hs
        induction s with
        | nil => cases hc
        | cons x s ih =>
          by_cases hx : x = c
          · subst hx; exact ⟨[], s, rfl, by simp⟩
          · obtain ⟨a, b, e, h⟩ := ih (by rcases List.mem_cons.1 hc with h | h; exact absurd h.symm hx; exact h)
            exact ⟨x :: a, b, by rw [e]; rfl, by simp [h]; exact fun e => hx e.symm⟩
      have hidx : Lib.index (a ++ c :: b) [c] = (a.length : Int) := by
        refine Lib.index_first (by simp) ?_ ?_
        · simp [Lib.occAt]
        · intro j hj
          have : (a ++ c :: b).drop j = a[j] :: ((a ++ c :: b).drop (j + 1)) := by
            rw [List.drop_eq_getElem_cons (by simp; omega), List.getElem_append_left hj]
          have hne : a[j] ≠ c := fun e => ha (by rw [← e]; exact List.getElem_mem hj)
          rw [Lib.occAt, this]
          simp only [List.isPrefixOf, Bool.and_true]
          exact beq_eq_false_iff_ne.2 (fun e => hne e.symm)
      have hcnt : (a ++ c :: b).count c = b.count c + 1 := by
        rw [List.count_append, List.count_eq_zero.2 ha, List.count_cons_self]; omega
      rw [hcnt, Lib.splitK, if_neg (by rw [hidx]; simp), hidx, Int.toNat_natCast, pcs_cat, pcs_none ha]
      have e1 : (a ++ c :: b).take (a.length + 0) = a := by simp
      have e2 : (a ++ c :: b).drop (a.length + [c].length) = b := by simp
      rw [e1, e2, ih b (by simp at hs; omega)]
      rfl
    · rw [List.count_eq_zero.2 hc, pcs_none hc]
      rfl
theorem split_pcs (c : UInt8) (s : List UInt8) : Lib.split s [c] = pcs c s := by
  rw [Lib.split, Lib.count_one]
  exact splitK_pcs c s.length s (Nat.le_refl _)
theorem splitB_pcs (c : UInt8) (s : List UInt8) : (Lib.splitB ⟨#[c]⟩ 0 (Lib.countB ⟨s.toArray⟩ ⟨#[c]⟩) ⟨s.toArray⟩).map (·.data.toList) = pcs c s := by
  rw [Lib.splitB_data]
  have := split_pcs c s
  rw [Lib.split] at this
  exact this
end Go.Proofs.YtpeiolimdglmhaaGreatDoor
