
/- Plain mathematics: an image with weights is unique; a unique image has weights. -/
import Derived.Test.YtnbaedpckdefgaaMathWo
import Derived.Test.YtnbaedpckdefgaaMathE
namespace Go.Proofs.Ytnbaedpckdefgaa

/-- four cells make a switch, in whichever order the rows and the columns come -/
theorem sw_any {m : Nat} {xs : List Int} {i i' a b : Nat} (hi : i < xs.length) (hi' : i' < xs.length) (ha : a < m) (hb : b < m) (h1 : cellF xs i b = true) (h2 : cellF xs i a = false) (h3 : cellF xs i' a = true) (h4 : cellF xs i' b = false) : swList m xs ≠ [] := by
  have hne : i ≠ i' := by rintro rfl; rw [h1] at h4; cases h4
  have hnc : a ≠ b := by rintro rfl; rw [h1] at h2; cases h2
  have key : ∃ s : Sw, s ∈ swList m xs := by
    rcases Nat.lt_or_ge i i' with hlt | hge <;> rcases Nat.lt_or_ge a b with hl2 | hg2
    · exact ⟨⟨i, i', a, b⟩, mem_swList.2 ⟨⟨hlt, hi', hl2, hb⟩, by simp [swOk, h1, h2, h3, h4]⟩⟩
    · exact ⟨⟨i, i', b, a⟩, mem_swList.2 ⟨⟨hlt, hi', by show b < a; omega, ha⟩, by simp [swOk, h1, h2, h3, h4]⟩⟩
    · exact ⟨⟨i', i, a, b⟩, mem_swList.2 ⟨⟨by show i' < i; omega, hi, hl2, hb⟩, by simp [swOk, h1, h2, h3, h4]⟩⟩
    · exact ⟨⟨i', i, b, a⟩, mem_swList.2 ⟨⟨by show i' < i; omega, hi, by show b < a; omega, ha⟩, by simp [swOk, h1, h2, h3, h4]⟩⟩
  obtain ⟨s, hs⟩ := key
  intro e
  rw [e] at hs
  cases hs
theorem wFit_uniq {W : Int} {xs p q : List Int} (h : wFit W xs p q = true) : uniqB W xs = true := by
  obtain ⟨h1, h2, h3, h4⟩ := wFit_parts h
  rw [uniqB, h2, Bool.true_and, decide_eq_true_eq]
  rw [wW, if_pos h1] at h3
  rw [wX, if_pos h1] at h4
  have hW : W.toNat = q.length := by omega
  rw [List.eq_nil_iff_forall_not_mem]
  intro s hs
  obtain ⟨⟨g1, g2, g3, g4⟩, g5⟩ := mem_swList.1 hs
  rw [hW] at g4
  have hl : xs.length = p.length := by rw [h4, img_len]
  have c := fun i j (hi : i < p.length) (hj : j < q.length) => cellF_img' (f := wF p q) (h := p.length) (m := q.length) hi hj
  rw [← h4] at c
  rw [swOk, c s.b s.d (by omega) g4, c s.a s.c (by omega) (by omega), c s.a s.d (by omega) g4, c s.b s.c (by omega) (by omega)] at g5
  simp only [wF, Bool.and_eq_true, bne_iff_ne, beq_iff_eq, ne_eq] at g5
  obtain ⟨⟨e1, e2⟩, e3⟩ := g5
  by_cases p1 : 0 < p[s.a]?.getD 0 + q[s.c]?.getD 0 <;> by_cases p2 : 0 < p[s.b]?.getD 0 + q[s.d]?.getD 0 <;> by_cases p3 : 0 < p[s.a]?.getD 0 + q[s.d]?.getD 0 <;> by_cases p4 : 0 < p[s.b]?.getD 0 + q[s.c]?.getD 0 <;>
    simp only [p1, p2, p3, p4, decide_true, decide_false, not_true, not_false_eq_true, reduceCtorEq] at e1 e2 e3 <;> omega
/-- in a list where whoever stands ahead of one that holds holds, too: the first ones hold -/
theorem first_hold {α : Type} {p : α → Bool} : ∀ {l : List α} {k : Nat} {x : α}, l.Pairwise (fun a b => p b = true → p a = true) → l[k]? = some x → (p x = true ↔ k < l.countP p)
  | [], k, x, _, h => by simp at h
  | a :: l, k, x, hp, h => by
    rw [List.pairwise_cons] at hp
    rw [List.countP_cons]
    cases k with
    | zero =>
      simp at h
      subst h
      cases ha : p a with
      | true => simp
      | false =>
        have : l.countP p = 0 := by
          rw [List.countP_eq_zero]
          intro b hb hpb
          rw [hp.1 b hb hpb] at ha
          cases ha
        simp [this]
    | succ k =>
      simp only [List.getElem?_cons_succ] at h
      have ih := first_hold hp.2 h
      cases ha : p a with
      | true => simp [ih]
      | false =>
        have h0 : l.countP p = 0 := by
          rw [List.countP_eq_zero]
          intro b hb hpb
          rw [hp.1 b hb hpb] at ha
          cases ha
        rw [h0] at ih
        simp [h0, ih]
theorem keyL_csum {m : Nat} {xs : List Int} {j : Nat} (hj : j < m) : keyL (csum m xs) (j : Int) = (ccnt xs j : Int) := by
  simp [keyL, csum, List.getElem?_map, List.getElem?_range hj]
theorem ccnt_cells (xs : List Int) (j : Nat) : ccnt xs j = (List.range xs.length).countP (fun i => cellF xs i j) := by
  have : xs = (List.range xs.length).map (fun i => xs[i]?.getD 0) := by
    apply List.ext_getElem
    · simp
    · intro i h1 h2
      simp [List.getElem?_eq_getElem h1]
  conv => lhs; rw [ccnt, this, List.countP_map]
  rfl
theorem countP_lt {l : List Nat} {p q : Nat → Bool} (h : ∀ x ∈ l, p x = true → q x = true) {y : Nat} (hy : y ∈ l) (h1 : p y = false) (h2 : q y = true) : l.countP p < l.countP q := by
  induction l with
  | nil => cases hy
  | cons a l ih =>
    rw [List.countP_cons, List.countP_cons]
    have hle : l.countP p ≤ l.countP q := List.countP_mono_left (fun x hx => h x (List.mem_cons_of_mem _ hx))
    by_cases e : y = a
    · subst e
      simp [h1, h2]
      omega
    · have hm : y ∈ l := by
        rcases List.mem_cons.1 hy with h | h
        · exact absurd h e
        · exact h
      have := ih (fun x hx => h x (List.mem_cons_of_mem _ hx)) hm
      have hpa : (if p a = true then 1 else 0) ≤ (if q a = true then 1 else 0) := by
        by_cases hh : p a = true
        · simp [hh, h a (List.mem_cons_self ..) hh]
        · simp [hh]
      omega
theorem nested_cell {m : Nat} {xs : List Int} (hu : uniqB (m : Int) xs = true) {i : Nat} (hi : i < xs.length) : (ordL (csum m xs)).Pairwise (fun a b => cellF xs i b.toNat = true → cellF xs i a.toNat = true) := by
  refine (ordL_sorted (csum m xs)).imp_of_mem (fun {a b} ha hb h hb1 => ?_)
  rw [ordL_mem, csum_len] at ha hb
  have hsw : swList m xs = [] := by
    rw [uniqB, Bool.and_eq_true, Int.toNat_natCast, decide_eq_true_eq] at hu
    exact hu.2
  cases ha1 : cellF xs i a.toNat with
  | true => rfl
  | false =>
    exfalso
    obtain ⟨a', rfl⟩ := Int.eq_ofNat_of_zero_le ha.1
    obtain ⟨b', rfl⟩ := Int.eq_ofNat_of_zero_le hb.1
    rw [Int.toNat_natCast] at ha1 hb1
    have hlt : ccnt xs a' < ccnt xs b' := by
      rw [ccnt_cells, ccnt_cells]
      refine countP_lt (y := i) (fun x hx hxa => ?_) (List.mem_range.2 hi) ha1 hb1
      cases hxb : cellF xs x b' with
      | true => rfl
      | false => exact absurd hsw (sw_any hi (List.mem_range.1 hx) (by omega) (by omega) hb1 ha1 hxa hxb)
    rw [befL, keyL_csum (by omega), keyL_csum (by omega)] at h
    omega
theorem of_cell {m : Nat} {xs : List Int} (hu : uniqB (m : Int) xs = true) {i j : Nat} (hi : i < xs.length) (hj : j < m) : cellF xs i j = decide ((plc (ordL (csum m xs)) (j : Int) : Int) < (rsum xs)[i]?.getD 0) := by
  have hk := uniqB_ok hu
  have hm := plc_get (ordL_mem.2 (⟨by omega, by rw [csum_len]; omega⟩ : 0 ≤ (j : Int) ∧ (j : Int) < (csum m xs).length))
  have h1 := first_hold (p := fun x : Int => cellF xs i x.toNat) (nested_cell hu hi) hm
  rw [Int.toNat_natCast] at h1
  obtain ⟨r, hr1, hr2⟩ : ∃ r : Nat, xs[i]?.getD 0 = (r : Int) ∧ r < 2 ^ m := by
    have h2 := okB_all hk
    have h3 := allIn_at h2 i hi
    obtain ⟨r, hr⟩ := Int.eq_ofNat_of_zero_le h3.1
    refine ⟨r, hr, ?_⟩
    rw [hr, Int.toNat_natCast] at h3
    have : ((2 ^ m : Nat) : Int) = (2 : Int) ^ m := by simp
    omega
  have hR : (rsum xs)[i]?.getD 0 = ((pop r : Nat) : Int) := by
    rw [rsum, List.getElem?_map, List.getElem?_eq_getElem hi]
    rw [List.getElem?_eq_getElem hi, Option.getD_some] at hr1
    simp [hr1]
  have hcnt : (ordL (csum m xs)).countP (fun x : Int => cellF xs i x.toNat) = pop r := by
    rw [(ordL_perm (csum m xs)).countP_eq, csum_len, iotaL, List.countP_map, ← popK_pop hr2 (by have := okB_bd hk; omega), popK]
    refine List.countP_congr (fun x _ => ?_)
    simp [cellF, hr1]
  rw [hcnt] at h1
  rw [Bool.eq_iff_iff, h1, decide_eq_true_eq, hR]
  omega
theorem wP_get {R : List Int} {k : Nat} (h : k < R.length) : (wP R)[k]?.getD 0 = 2 * (R[k]?.getD 0) + 1 := by rw [wP_at h]; rfl
theorem wQ_get {O : List Int} {n j : Nat} (h : j < n) : (wQ O n)[j]?.getD 0 = -2 * ((plc O (j : Int) : Int) + 1) := by
  simp [wQ, List.getElem?_map, List.getElem?_range h]
theorem uniq_fit {W : Int} {xs : List Int} (hu : uniqB W xs = true) : wFit W xs (ofP W xs) (ofQ W xs) = true := by
  have hk := uniqB_ok hu
  have hbd := okB_bd hk
  obtain ⟨m, rfl⟩ := Int.eq_ofNat_of_zero_le (show 0 ≤ W by omega)
  have hP : ofP (m : Int) xs = wP (rsum xs) := by rw [ofP, hu]; rfl
  have hQ : ofQ (m : Int) xs = wQ (ordL (csum m xs)) m := by rw [ofQ, hu, Int.toNat_natCast]; rfl
  have hpl : (wP (rsum xs)).length = xs.length := by rw [wP_len, rsum_len]
  have hql : (wQ (ordL (csum m xs)) m).length = m := wQ_len _ _
  have hpv : ∀ i, i < xs.length → (wP (rsum xs))[i]?.getD 0 = 2 * ((rsum xs)[i]?.getD 0) + 1 := fun i hi => wP_get (by rw [rsum_len]; exact hi)
  have hqv : ∀ j, j < m → (wQ (ordL (csum m xs)) m)[j]?.getD 0 = -2 * ((plc (ordL (csum m xs)) (j : Int) : Int) + 1) := fun j hj => wQ_get hj
  have hpl2 : ∀ j : Nat, j < m → plc (ordL (csum m xs)) (j : Int) < m := fun j hj => by
    have := plc_lt (ordL_mem.2 (⟨by omega, by rw [csum_len]; omega⟩ : 0 ≤ (j : Int) ∧ (j : Int) < (csum m xs).length))
    rwa [ordL_len, csum_len] at this
  have hI1 : wIn (wP (rsum xs)) = true := by
    rw [wIn_eq (fun k hk2 => ?_), hpl]
    · simp; omega
    · rw [hpl] at hk2
      have := rsum_bd xs hk2
      rw [hpv k hk2]
      omega
  have hI2 : wIn (wQ (ordL (csum m xs)) m) = true := by
    rw [wIn_eq (fun k hk2 => ?_), hql]
    · simp; omega
    · rw [hql] at hk2
      have := hpl2 k hk2
      rw [hqv k hk2]
      omega
  have hS : wSum (wP (rsum xs)) (wQ (ordL (csum m xs)) m) = true := wSum_of (fun i j hi hj => by
    rw [hpl] at hi
    rw [hql] at hj
    rw [hpv i hi, hqv j hj]
    omega)
  have hO : wOk (wP (rsum xs)) (wQ (ordL (csum m xs)) m) = true := by rw [wOk, hI1, hI2, hS]; rfl
  have hX : wX (wP (rsum xs)) (wQ (ordL (csum m xs)) m) = xs := by
    rw [wX, hO, if_pos rfl, hpl, hql]
    conv => rhs; rw [← img_self hk]
    refine img_congr (fun i hi j hj => ?_)
    rw [of_cell hu hi hj, wF, hpv i hi, hqv j hj, decide_eq_decide]
    omega
  rw [hP, hQ, wFit, hO, hk, hX, wW, hO, if_pos rfl, hql]
  simp
/-- the columns' weights: even, negative, different, by descending sum -/
theorem ofQ_laws {m : Nat} {xs : List Int} {j k : Nat} (hj : j < m) (hk : k < m) : (wQ (ordL (csum m xs)) m)[j]?.getD 0 % 2 = 0 ∧ (wQ (ordL (csum m xs)) m)[j]?.getD 0 < 0 ∧ -20 ≤ (wQ (ordL (csum m xs)) m)[j]?.getD 0 + 2 * (m : Int) ∧
    (j ≠ k → (wQ (ordL (csum m xs)) m)[j]?.getD 0 ≠ (wQ (ordL (csum m xs)) m)[k]?.getD 0) ∧ ((csum m xs)[j]?.getD 0 > (csum m xs)[k]?.getD 0 → (wQ (ordL (csum m xs)) m)[j]?.getD 0 ≥ (wQ (ordL (csum m xs)) m)[k]?.getD 0) := by
  rw [wQ_get hj, wQ_get hk]
  have g1 := plc_get (ordL_mem.2 (⟨by omega, by rw [csum_len]; omega⟩ : 0 ≤ (j : Int) ∧ (j : Int) < (csum m xs).length))
  have g2 := plc_get (ordL_mem.2 (⟨by omega, by rw [csum_len]; omega⟩ : 0 ≤ (k : Int) ∧ (k : Int) < (csum m xs).length))
  have l1 := plc_lt (List.mem_of_getElem? g1)
  have l2 := plc_lt (List.mem_of_getElem? g2)
  rw [ordL_len, csum_len] at l1 l2
  refine ⟨by omega, by omega, by omega, fun hne h => ?_, fun h => ?_⟩
  · have e : plc (ordL (csum m xs)) (j : Int) = plc (ordL (csum m xs)) (k : Int) := by omega
    rw [e, g2] at g1
    injection g1 with g1
    omega
  · rcases Nat.lt_or_ge (plc (ordL (csum m xs)) (k : Int)) (plc (ordL (csum m xs)) (j : Int)) with hlt | hge
    · exfalso
      have hs := ordL_sorted (csum m xs)
      rw [List.pairwise_iff_getElem] at hs
      have := hs _ _ (by rw [ordL_len, csum_len]; exact l2) (by rw [ordL_len, csum_len]; exact l1) hlt
      rw [List.getElem?_eq_getElem (by rw [ordL_len, csum_len]; exact l1)] at g1
      rw [List.getElem?_eq_getElem (by rw [ordL_len, csum_len]; exact l2)] at g2
      injection g1 with g1
      injection g2 with g2
      rw [g1, g2, befL] at this
      simp only [keyL, Int.toNat_natCast] at this
      omega
    · omega
end Go.Proofs.Ytnbaedpckdefgaa
