
/- Plain mathematics: proofs that sums are not consistent. -/
import Derived.Test.YtkcdoacojiilaaaGreatSv
import Derived.Test.YtkcdoacojiilaaaGreatMathY
namespace Go.Proofs.YtkcdoacojiilaaaGreat

theorem allIn_iff {lo hi : Int} {p : List Int} : allIn lo hi p = true ↔ ∀ x ∈ p, lo ≤ x ∧ x ≤ hi := by
  simp only [allIn, List.all_eq_true, Bool.and_eq_true, decide_eq_true_eq]
theorem sIn_iff {hi : Int} {p : List Int} : sIn hi p = true ↔ 1 ≤ p.length ∧ p.length ≤ 6 ∧ ∀ x ∈ p, 0 ≤ x ∧ x ≤ hi := by
  simp only [sIn, Bool.and_eq_true, decide_eq_true_eq, allIn_iff, and_assoc]
theorem sIn_perm {hi : Int} {p q : List Int} (h : p.Perm q) : sIn hi p = sIn hi q := by
  rw [Bool.eq_iff_iff, sIn_iff, sIn_iff, h.length_eq]
  simp only [h.mem_iff]
theorem sV_perm {r r' c c' : List Int} (h : r.Perm r') (k : c.Perm c') : sV r c = sV r' c' := by
  simp only [sV]
  rw [sIn_perm h, sIn_perm k, h.length_eq, k.length_eq]
theorem sV_out {r c : List Int} (h : sV r c = true) : 1 ≤ r.length ∧ r.length ≤ 6 ∧ 1 ≤ c.length ∧ c.length ≤ 6 ∧ (∀ x ∈ r, 0 ≤ x ∧ x ≤ c.length) ∧ (∀ x ∈ c, 0 ≤ x ∧ x ≤ r.length) := by
  simp only [sV, Bool.and_eq_true, sIn_iff] at h
  exact ⟨h.1.1, h.1.2.1, h.2.1, h.2.2.1, h.1.2.2, h.2.2.2⟩
theorem sV_swap (r c : List Int) : sV c r = sV r c := by simp only [sV, Bool.and_comm]

/-- the excess at t -/
def exc (r c : List Int) (t : Nat) : Int := tSum r t - mSum c t
theorem exc_perm {r r' c c' : List Int} (h : r.Perm r') (k : c.Perm c') (t : Nat) : exc r c t = exc r' c' t := by rw [exc, tSum_perm h, mSum_perm k, exc]
/-- ProofOk -/
def pOk (r c : List Int) (t : Int) : Bool := sV r c && decide (0 ≤ t) && decide (t ≤ r.length) && decide (0 < exc r c t.toNat)
theorem pOk_iff {r c : List Int} {t : Int} : pOk r c t = true ↔ sV r c = true ∧ 0 ≤ t ∧ t ≤ r.length ∧ 0 < exc r c t.toNat := by
  simp only [pOk, Bool.and_eq_true, decide_eq_true_eq, and_assoc]
theorem pOk_perm {r r' c c' : List Int} (h : r.Perm r') (k : c.Perm c') (t : Int) : pOk r c t = pOk r' c' t := by
  simp only [pOk]
  rw [sV_perm h k, h.length_eq, exc_perm h k]
/-- ProofOf -/
def pOf (r c : List Int) : Option Nat := (List.range 7).find? (fun t => pOk r c (t : Nat))
theorem pOf_perm {r r' c c' : List Int} (h : r.Perm r') (k : c.Perm c') : pOf r c = pOf r' c' := by
  simp only [pOf]
  congr 1
  funext t
  exact pOk_perm h k _
theorem pOf_some {r c : List Int} {t : Nat} (h : pOf r c = some t) : pOk r c (t : Nat) = true ∧ ∀ s, s < t → pOk r c (s : Nat) = false := by
  obtain ⟨h1, l1, l2, h2, h3⟩ := List.find?_eq_some_iff_append.1 h
  refine ⟨h1, fun s hs => ?_⟩
  have hl : l1.length = t := by
    have e := congrArg (fun l => l[l1.length]?) h2
    simp only [List.getElem?_append_right (Nat.le_refl _), Nat.sub_self, List.getElem?_cons_zero] at e
    rcases Nat.lt_or_ge l1.length 7 with h4 | h4
    · rw [List.getElem?_range h4] at e; injection e
    · rw [List.getElem?_eq_none (by simpa using h4)] at e; cases e
  have hm : s ∈ l1 := by
    have e := congrArg (fun l => l[s]?) h2
    simp only [List.getElem?_append_left (show s < l1.length by omega)] at e
    have ht : t < 7 := by
      have := congrArg List.length h2
      simp at this; omega
    rw [List.getElem?_range (by omega)] at e
    exact List.mem_of_getElem? e.symm
  simpa using h3 s hm
theorem pOf_none {r c : List Int} (h : pOf r c = none) (t : Int) : pOk r c t = false := by
  cases e : pOk r c t with
  | false => rfl
  | true =>
    obtain ⟨h1, h2, h3, h4⟩ := pOk_iff.1 e
    have hb := sV_out h1
    have := List.find?_eq_none.1 h t.toNat (List.mem_range.2 (by omega))
    rw [show ((t.toNat : Nat) : Int) = t by omega, e] at this
    exact absurd rfl this
theorem pOf_isSome {r c : List Int} {t : Int} (h : pOk r c t = true) : ∃ s : Nat, pOf r c = some s ∧ (s : Int) ≤ t := by
  cases e : pOf r c with
  | none => rw [pOf_none e] at h; cases h
  | some s =>
    refine ⟨s, rfl, ?_⟩
    obtain ⟨_, h2⟩ := pOf_some e
    rcases Int.lt_or_le t s with h3 | h3
    · have h4 := pOk_iff.1 h
      have := h2 t.toNat (by omega)
      rw [show ((t.toNat : Nat) : Int) = t by omega, h] at this
      cases this
    · exact h3
theorem exc_zero (r : List Int) {c : List Int} (h : ∀ x ∈ c, 0 ≤ x) : exc r c 0 = 0 := by
  have e : ∀ c : List Int, (∀ x ∈ c, 0 ≤ x) → mSum c ((0 : Nat) : Int) = 0 := by
    intro c
    induction c with
    | nil => intro _; rfl
    | cons x c ih =>
      intro h
      have h1 := h x (List.mem_cons_self ..)
      have h2 := ih (fun y hy => h y (List.mem_cons_of_mem _ hy))
      simp only [mSum, List.map_cons, List.sum_cons] at h2 ⊢
      omega
  rw [exc, e c h]
  simp [tSum]
/-- a proof is not 0 -/
theorem pOk_pos {r c : List Int} {t : Int} (h : pOk r c t = true) : 0 < t := by
  obtain ⟨h1, h2, _, h4⟩ := pOk_iff.1 h
  rcases Int.lt_or_le 0 t with h5 | h5
  · exact h5
  · obtain rfl : t = 0 := by omega
    rw [show (0 : Int).toNat = 0 from rfl, exc_zero r (fun x hx => ((sV_out h1).2.2.2.2.2 x hx).1)] at h4
    omega

theorem mSum_le_sum (c : List Int) (t : Int) : mSum c t ≤ c.sum := by
  induction c with
  | nil => simp [mSum]
  | cons x c ih => simp only [mSum, List.map_cons, List.sum_cons] at ih ⊢; omega
theorem mSum_all {c : List Int} {t : Int} (h : ∀ x ∈ c, x ≤ t) : mSum c t = c.sum := by
  induction c with
  | nil => simp [mSum]
  | cons x c ih =>
    have h1 := h x (List.mem_cons_self ..)
    have h2 := ih (fun y hy => h y (List.mem_cons_of_mem _ hy))
    simp only [mSum, List.map_cons, List.sum_cons] at h2 ⊢
    omega
theorem mSum_nonneg {c : List Int} {t : Int} (h : ∀ x ∈ c, 0 ≤ x) (ht : 0 ≤ t) : 0 ≤ mSum c t := by
  induction c with
  | nil => simp [mSum]
  | cons x c ih =>
    have h1 := h x (List.mem_cons_self ..)
    have h2 := ih (fun y hy => h y (List.mem_cons_of_mem _ hy))
    simp only [mSum, List.map_cons, List.sum_cons] at h2 ⊢
    omega
theorem tSum_all (r : List Int) {t : Nat} (h : r.length ≤ t) : tSum r t = r.sum := by
  rw [tSum, List.take_of_length_le (by rw [dsort_len]; exact h), perm_sum (dsort_perm r)]
theorem sum_nonneg' : ∀ {l : List Int}, (∀ x ∈ l, 0 ≤ x) → 0 ≤ l.sum
  | [], _ => by simp
  | x :: l, h => by
    have h1 := h x (List.mem_cons_self ..)
    have h2 := sum_nonneg' (l := l) (fun y hy => h y (List.mem_cons_of_mem _ hy))
    rw [List.sum_cons]; omega
theorem tSum_drop (r : List Int) (t : Nat) : tSum r t + ((dsort r).drop t).sum = r.sum := by
  rw [tSum, ← List.sum_append, List.take_append_drop, perm_sum (dsort_perm r)]
theorem tSum_le {r : List Int} (h : ∀ x ∈ r, 0 ≤ x) (t : Nat) : 0 ≤ tSum r t ∧ tSum r t ≤ r.sum := by
  have h1 : ∀ x ∈ dsort r, 0 ≤ x := fun x hx => h x ((dsort_perm r).mem_iff.1 hx)
  have h2 := sum_nonneg' (l := (dsort r).drop t) (fun x hx => h1 x (List.mem_of_mem_drop hx))
  have h3 := sum_nonneg' (l := (dsort r).take t) (fun x hx => h1 x (List.mem_of_mem_take hx))
  have h4 := tSum_drop r t
  have h5 : tSum r t = ((dsort r).take t).sum := rfl
  omega
/-- different totals: a proof for the one or the other -/
theorem pOf_either {r c : List Int} (h : sV r c = true) (hne : r.sum ≠ c.sum) : (∃ t, pOf r c = some t) ∨ (∃ t, pOf c r = some t) := by
  have hb := sV_out h
  have key : ∀ {r c : List Int}, sV r c = true → c.sum < r.sum → ∃ t, pOf r c = some t := by
    intro r c h hlt
    have hb := sV_out h
    have : pOk r c (r.length : Nat) = true := pOk_iff.2 ⟨h, by omega, by omega, by
      rw [Int.toNat_natCast, exc, tSum_all r (Nat.le_refl _), mSum_all (fun x hx => (hb.2.2.2.2.2 x hx).2)]; omega⟩
    obtain ⟨s, hs, _⟩ := pOf_isSome this
    exact ⟨s, hs⟩
  rcases Int.lt_or_le c.sum r.sum with h1 | h1
  · exact .inl (key h h1)
  · exact .inr (key (by rw [sV_swap]; exact h) (by omega))

/-- where a list in descending order goes below t -/
theorem mSum_split (t : Int) : ∀ cs : List Int, cs.Pairwise (fun a b => b ≤ a) → ∃ k : Nat, k ≤ cs.length ∧ mSum cs t = t * k + (cs.drop k).sum
  | [], _ => ⟨0, Nat.le_refl _, by simp [mSum]⟩
  | c :: cs, h => by
    rw [List.pairwise_cons] at h
    by_cases hc : c ≤ t
    · exact ⟨0, Nat.zero_le _, by rw [mSum_all (fun x hx => by rcases List.mem_cons.1 hx with rfl | hx; exact hc; have := h.1 x hx; omega)]; simp⟩
    · obtain ⟨k, h1, h2⟩ := mSum_split t cs h.2
      refine ⟨k + 1, by simpa using h1, ?_⟩
      have e : mSum (c :: cs) t = min c t + mSum cs t := rfl
      rw [e, h2, List.drop_succ_cons]
      push_cast
      rw [Int.mul_add]
      omega
theorem mSum_bound (k : Nat) : ∀ (rs : List Int) (t : Nat), t ≤ rs.length → mSum rs k ≤ k * t + (rs.drop t).sum
  | rs, 0, _ => by simpa using mSum_le_sum rs k
  | [], t + 1, h => by simp at h
  | r :: rs, t + 1, h => by
    have ih := mSum_bound k rs t (by simpa using h)
    have e : mSum (r :: rs) k = min r (k : Int) + mSum rs k := rfl
    rw [e, List.drop_succ_cons]
    push_cast
    rw [Int.mul_add]
    omega
/-- what refutes the rows refutes the columns -/
theorem dual {r c : List Int} (hs : r.sum = c.sum) {t : Nat} (ht : t ≤ r.length) (he : 0 < exc r c t) : ∃ k : Nat, k ≤ c.length ∧ 0 < exc c r k := by
  obtain ⟨k, h1, h2⟩ := mSum_split t (dsort c) (dsort_sorted c)
  rw [dsort_len] at h1
  refine ⟨k, h1, ?_⟩
  have h3 := mSum_bound k (dsort r) t (by rw [dsort_len]; exact ht)
  have h4 := tSum_drop r t
  have h5 := tSum_drop c k
  have e1 : mSum (dsort r) k = mSum r k := mSum_perm (dsort_perm r) _
  have e2 : mSum (dsort c) t = mSum c t := mSum_perm (dsort_perm c) _
  have e3 : (k : Int) * t = t * k := Int.mul_comm _ _
  unfold exc at he ⊢
  omega
theorem dual_pOf {r c : List Int} (h : sV r c = true) (hs : r.sum = c.sum) {t : Nat} (ht : pOf r c = some t) : ∃ k, pOf c r = some k := by
  obtain ⟨h1, h2, h3, h4⟩ := pOk_iff.1 (pOf_some ht).1
  rw [Int.toNat_natCast] at h4
  obtain ⟨k, h5, h6⟩ := dual hs (by omega) h4
  obtain ⟨s, hs, _⟩ := pOf_isSome (r := c) (c := r) (t := (k : Nat)) (pOk_iff.2 ⟨by rw [sV_swap]; exact h, by omega, by omega, by rw [Int.toNat_natCast]; exact h6⟩)
  exact ⟨s, hs⟩
/-- SumsConsistent -/
def consB (r c : List Int) : Bool := sV r c && decide (r.sum = c.sum) && (List.range 7).all (fun k => decide (exc c r k ≤ 0))
theorem consB_iff {r c : List Int} : consB r c = true ↔ sV r c = true ∧ r.sum = c.sum ∧ pOf c r = none := by
  simp only [consB, Bool.and_eq_true, decide_eq_true_eq, List.all_eq_true, List.mem_range, and_assoc]
  constructor
  · rintro ⟨h1, h2, h3⟩
    refine ⟨h1, h2, List.find?_eq_none.2 (fun t ht => ?_)⟩
    intro h4
    have h5 := (pOk_iff.1 h4).2.2.2
    have h6 := h3 t (by simpa using ht)
    rw [Int.toNat_natCast] at h5
    omega
  · rintro ⟨h1, h2, h3⟩
    refine ⟨h1, h2, fun k hk => ?_⟩
    have hb := sV_out h1
    rcases Nat.lt_or_ge c.length k with h4 | h4
    · rw [exc, tSum_all c (by omega), mSum_all (fun x hx => by have := hb.2.2.2.2.1 x hx; omega)]; omega
    · have h5 := pOf_none h3 (k : Nat)
      rcases Int.lt_or_le 0 (exc c r k) with h6 | h6
      · rw [pOk_iff.2 ⟨by rw [sV_swap]; exact h1, by omega, by omega, by rw [Int.toNat_natCast]; exact h6⟩] at h5
        cases h5
      · exact h6
theorem consB_no {r c : List Int} {t : Nat} (h : pOf r c = some t) : consB r c = false := by
  cases e : consB r c with
  | false => rfl
  | true =>
    obtain ⟨h1, h2, h3⟩ := consB_iff.1 e
    obtain ⟨k, hk⟩ := dual_pOf h1 h2 h
    rw [h3] at hk; cases hk
theorem consB_no' {r c : List Int} {t : Nat} (h : pOf c r = some t) : consB r c = false := by
  cases e : consB r c with
  | false => rfl
  | true =>
    rw [(consB_iff.1 e).2.2] at h; cases h
end Go.Proofs.YtkcdoacojiilaaaGreat
