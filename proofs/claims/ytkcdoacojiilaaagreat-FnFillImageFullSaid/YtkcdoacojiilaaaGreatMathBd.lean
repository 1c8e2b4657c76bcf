
/- Plain mathematics: the image that is built column by column has the sums that it is built of, if any image has. -/
import Derived.Test.YtkcdoacojiilaaaGreatMathWo
import Derived.Test.YtkcdoacojiilaaaGreatKr
import Derived.Test.YtkcdoacojiilaaaGreatMathZ
import Derived.Test.YtkcdoacojiilaaaGreatMathIm
namespace Go.Proofs.YtkcdoacojiilaaaGreat

theorem sumN_two {n : Nat} {F G : Nat → Nat} {a b : Nat} (ha : a < n) (hb : b < n) (hab : a ≠ b) (h : ∀ i, i < n → i ≠ a → i ≠ b → F i = G i) (e : F a + F b = G a + G b) : sumN n F = sumN n G := by
  let H : Nat → Nat := fun i => if i = a then F a else G i
  have h1 := sumN_one (n := n) (F := F) (G := H) (k := b) hb (fun i hi hne => by
    show F i = if i = a then F a else G i
    by_cases e1 : i = a
    · rw [if_pos e1, e1]
    · rw [if_neg e1]; exact h i hi e1 hne)
  have h2 := sumN_one (n := n) (F := H) (G := G) (k := a) ha (fun i hi hne => by
    show (if i = a then F a else G i) = G i
    rw [if_neg hne])
  have e1 : H b = G b := if_neg (Ne.symm hab)
  have e2 : H a = F a := if_pos rfl
  omega
/-- there are cells with these sums -/
def ExI (h m : Nat) (L c : Nat → Nat) : Prop := ∃ Z : Nat → Nat → Bool, (∀ i, i < h → sumN m (fun k => b1 (Z i k)) = L i) ∧ ∀ k, k < m → sumN h (fun i => b1 (Z i k)) = c k
/-- the rows that are greatest may have their cell in the first column -/
theorem exchange {h m : Nat} {L c : Nat → Nat} {g : Nat → Bool} (hg : sumN h (fun i => b1 (g i)) = c 0) (hgr : ∀ i i', i < h → i' < h → g i = true → g i' = false → L i' ≤ L i) :
    ∀ (N : Nat) (Z : Nat → Nat → Bool), (∀ i, i < h → sumN (m + 1) (fun k => b1 (Z i k)) = L i) → (∀ k, k < m + 1 → sumN h (fun i => b1 (Z i k)) = c k) → sumN h (fun i => b1 (Z i 0 && !g i)) ≤ N →
      ∃ Z' : Nat → Nat → Bool, (∀ i, i < h → sumN (m + 1) (fun k => b1 (Z' i k)) = L i) ∧ (∀ k, k < m + 1 → sumN h (fun i => b1 (Z' i k)) = c k) ∧ ∀ i, i < h → Z' i 0 = g i := by
  intro N
  induction N with
  | zero =>
    intro Z hr hc hN
    refine ⟨Z, hr, hc, fun i hi => ?_⟩
    have hsub : ∀ i, i < h → Z i 0 = true → g i = true := fun i hi hz => by
      cases hgi : g i with
      | true => rfl
      | false =>
        have := sumN_lt (n := h) (F := fun _ => 0) (G := fun i => b1 (Z i 0 && !g i)) (fun _ _ => Nat.zero_le _) hi (by simp [hz, hgi, b1])
        omega
    cases hgi : g i with
    | false =>
      cases hz : Z i 0 with
      | false => rfl
      | true => rw [hsub i hi hz] at hgi; cases hgi
    | true =>
      cases hz : Z i 0 with
      | true => rfl
      | false =>
        have hlt := sumN_lt (n := h) (F := fun i => b1 (Z i 0)) (G := fun i => b1 (g i)) (fun k hk => by
          cases hzk : Z k 0 with
          | false => simp [b1]
          | true => simp [b1, hsub k hk hzk]) hi (by simp [hz, hgi, b1])
        have := hc 0 (by omega)
        omega
  | succ N ih =>
    intro Z hr hc hN
    rcases Nat.lt_or_ge (sumN h (fun i => b1 (Z i 0 && !g i))) (N + 1) with hlt | hge
    · exact ih Z hr hc (by omega)
    obtain ⟨i', hi', hp⟩ := sumN_pos (n := h) (F := fun i => b1 (Z i 0 && !g i)) (by omega)
    have hz' : Z i' 0 = true ∧ g i' = false := by
      cases h1 : Z i' 0 <;> cases h2 : g i' <;> simp [h1, h2, b1] at hp <;> simp
    obtain ⟨i, hi, hzi, hgi⟩ := bits_other (n := h) (f := fun i => Z i 0) (g := g) (by have := hc 0 (by omega); omega) hi' hz'.1 hz'.2
    have hle := hgr i i' hi hi' hgi hz'.2
    have hne : i ≠ i' := by rintro rfl; rw [hzi] at hz'; cases hz'.1
    obtain ⟨k, hk, hk1, hk2⟩ := bits_other (n := m + 1) (f := Z i') (g := Z i) (by rw [hr i hi, hr i' hi']; exact hle) (show 0 < m + 1 by omega) hz'.1 hzi
    have hk0 : k ≠ 0 := by rintro rfl; rw [hz'.1] at hk1; cases hk1
    let Y : Nat → Nat → Bool := fun p q => if q = 0 then (if p = i then true else if p = i' then false else Z p 0) else if q = k then (if p = i then false else if p = i' then true else Z p k) else Z p q
    have y0i : Y i 0 = true := by simp [Y]
    have y0i' : Y i' 0 = false := by simp [Y, Ne.symm hne]
    have yki : Y i k = false := by simp [Y, hk0]
    have yki' : Y i' k = true := by simp [Y, hk0, Ne.symm hne]
    have yo : ∀ p q, (p ≠ i ∧ p ≠ i') ∨ (q ≠ 0 ∧ q ≠ k) → Y p q = Z p q := by
      intro p q hpq
      show (if q = 0 then (if p = i then true else if p = i' then false else Z p 0) else if q = k then (if p = i then false else if p = i' then true else Z p k) else Z p q) = Z p q
      by_cases e0 : q = 0
      · subst e0
        rcases hpq with ⟨a, b⟩ | ⟨a, _⟩
        · rw [if_pos rfl, if_neg a, if_neg b]
        · exact absurd rfl a
      · rw [if_neg e0]
        by_cases ek : q = k
        · subst ek
          rcases hpq with ⟨a, b⟩ | ⟨_, a⟩
          · rw [if_pos rfl, if_neg a, if_neg b]
          · exact absurd rfl a
        · rw [if_neg ek]
    refine ih Y (fun p hp => ?_) (fun q hq => ?_) ?_
    · rw [← hr p hp]
      by_cases e1 : p = i
      · subst e1
        exact sumN_two (a := 0) (b := k) (by omega) hk (Ne.symm hk0) (fun q hq n1 n2 => by rw [yo p q (.inr ⟨n1, n2⟩)]) (by rw [y0i, yki, hzi, hk2]; rfl)
      · by_cases e2 : p = i'
        · subst e2
          exact sumN_two (a := 0) (b := k) (by omega) hk (Ne.symm hk0) (fun q hq n1 n2 => by rw [yo p q (.inr ⟨n1, n2⟩)]) (by rw [y0i', yki', hz'.1, hk1]; rfl)
        · exact sumN_congr (fun q hq => by rw [yo p q (.inl ⟨e1, e2⟩)])
    · rw [← hc q hq]
      by_cases e0 : q = 0
      · subst e0
        exact sumN_two (a := i) (b := i') hi hi' hne (fun p hp n1 n2 => by rw [yo p 0 (.inl ⟨n1, n2⟩)]) (by rw [y0i, y0i', hzi, hz'.1]; rfl)
      · by_cases ek : q = k
        · subst ek
          exact sumN_two (a := i) (b := i') hi hi' hne (fun p hp n1 n2 => by rw [yo p q (.inl ⟨n1, n2⟩)]) (by rw [yki, yki', hk2, hk1]; rfl)
        · exact sumN_congr (fun p hp => by rw [yo p q (.inr ⟨e0, ek⟩)])
    · have := sumN_lt (n := h) (F := fun p => b1 (Y p 0 && !g p)) (G := fun p => b1 (Z p 0 && !g p)) (fun p hp => by
        by_cases e1 : p = i
        · subst e1
          simp [hgi, b1]
        · by_cases e2 : p = i'
          · subst e2
            simp [y0i', b1]
          · rw [yo p 0 (.inl ⟨e1, e2⟩)]
            exact Nat.le_refl _) hi' (by simp [y0i', hz'.1, hz'.2, b1])
      omega

/-- what is left of the row sums after j columns -/
def leftL (h : Nat) (xs ys : List Int) : Nat → List Int
  | 0 => xs
  | j + 1 => (List.range h).map (fun i : Nat => (leftL h xs ys j)[i]?.getD 0 - ((b1 (decide (plc (ordL (leftL h xs ys j)) (i : Int) < (ys[j]?.getD 0).toNat)) : Nat) : Int))
/-- the cells that are set -/
def bldF (h : Nat) (xs ys : List Int) (i j : Nat) : Bool := decide (plc (ordL (leftL h xs ys j)) (i : Int) < (ys[j]?.getD 0).toNat)
theorem leftL_len {h : Nat} {xs : List Int} (ys : List Int) (hx : xs.length = h) : ∀ j, (leftL h xs ys j).length = h
  | 0 => hx
  | j + 1 => by simp [leftL]
theorem leftL_at {h : Nat} (xs ys : List Int) {i : Nat} (hi : i < h) (j : Nat) : (leftL h xs ys (j + 1))[i]?.getD 0 = (leftL h xs ys j)[i]?.getD 0 - ((b1 (bldF h xs ys i j) : Nat) : Int) := by
  simp [leftL, bldF, List.getElem?_map, List.getElem?_range hi]
theorem plc_count {O : List Int} {h : Nat} (hp : O.Perm (iotaL h)) (s : Nat) (hs : s ≤ h) : sumN h (fun i => b1 (decide (plc O (i : Int) < s))) = s := by
  have hd : O.Nodup := hp.symm.nodup ((iotaL_sorted _).imp (fun h => by omega))
  have hl : O.length = h := by rw [hp.length_eq, iotaL_len]
  have e1 : sumN h (fun i => b1 (decide (plc O (i : Int) < s))) = (iotaL h).countP (fun x => decide (plc O x < s)) := by
    rw [countP_sum, iotaL_len]
    refine sumN_congr (fun i hi => ?_)
    simp [iotaL, List.getElem?_map, List.getElem?_range hi]
  rw [e1, ← hp.countP_eq]
  have key : ∀ k, k ≤ O.length → (O.take k).countP (fun x => decide (plc O x < s)) = min k s := by
    intro k
    induction k with
    | zero => intro _; simp
    | succ k ih =>
      intro hk
      have hk' : k < O.length := by omega
      rw [List.take_succ_eq_append_getElem hk', List.countP_append, ih (by omega), List.countP_singleton, plc_at hd (List.getElem?_eq_getElem hk')]
      by_cases hlt : k < s
      · simp [hlt]; omega
      · simp [hlt]; omega
  have := key O.length (Nat.le_refl _)
  rw [List.take_length] at this
  rw [this]
  omega
theorem ord_greedy {L : List Int} {s i i' : Nat} (hi : i < L.length) (hi' : i' < L.length) (h1 : plc (ordL L) (i : Int) < s) (h2 : ¬ plc (ordL L) (i' : Int) < s) : L[i']?.getD 0 ≤ L[i]?.getD 0 := by
  have g1 := plc_get (ordL_mem.2 (⟨by omega, by omega⟩ : 0 ≤ (i : Int) ∧ (i : Int) < L.length))
  have g2 := plc_get (ordL_mem.2 (⟨by omega, by omega⟩ : 0 ≤ (i' : Int) ∧ (i' : Int) < L.length))
  have l1 := plc_lt (List.mem_of_getElem? g1)
  have l2 := plc_lt (List.mem_of_getElem? g2)
  have hs := ordL_sorted L
  rw [List.pairwise_iff_getElem] at hs
  have := hs _ _ l1 l2 (by omega)
  rw [List.getElem?_eq_getElem l1] at g1
  rw [List.getElem?_eq_getElem l2] at g2
  injection g1 with g1
  injection g2 with g2
  rw [g1, g2, befL] at this
  simp only [keyL, Int.toNat_natCast] at this
  omega
/-- the rows' cells to come can always be had -/
theorem bld_ex {h m : Nat} {xs ys : List Int} (hx : xs.length = h) (hy : ∀ j, j < m → ∃ s : Nat, ys[j]?.getD 0 = (s : Int) ∧ s ≤ h) (Z : Nat → Nat → Bool) (hz1 : ∀ i, i < h → ((sumN m (fun k => b1 (Z i k)) : Nat) : Int) = xs[i]?.getD 0)
    (hz2 : ∀ k, k < m → ((sumN h (fun i => b1 (Z i k)) : Nat) : Int) = ys[k]?.getD 0) :
    ∀ j, j ≤ m → ∃ L : Nat → Nat, (∀ i, i < h → ((L i : Nat) : Int) = (leftL h xs ys j)[i]?.getD 0) ∧ ExI h (m - j) L (fun k => (ys[j + k]?.getD 0).toNat) := by
  intro j
  induction j with
  | zero =>
    intro _
    refine ⟨fun i => sumN m (fun k => b1 (Z i k)), fun i hi => hz1 i hi, Z, fun i _ => rfl, fun k hk => ?_⟩
    have := hz2 k hk
    simp only [Nat.zero_add]
    omega
  | succ j ih =>
    intro hj
    obtain ⟨L, hL, Y, hr, hc⟩ := ih (by omega)
    obtain ⟨s, hs, hsh⟩ := hy j (by omega)
    have hlen := leftL_len ys hx j
    have hperm : (ordL (leftL h xs ys j)).Perm (iotaL h) := by have := ordL_perm (leftL h xs ys j); rwa [hlen] at this
    have e : m - j = (m - (j + 1)) + 1 := by omega
    rw [e] at hr hc
    have hg : sumN h (fun i => b1 (bldF h xs ys i j)) = (ys[j + 0]?.getD 0).toNat := by
      rw [Nat.add_zero, hs, Int.toNat_natCast]
      have := plc_count hperm s hsh
      simp only [bldF, hs, Int.toNat_natCast]
      exact this
    obtain ⟨Y', hr', hc', h0⟩ := exchange (m := m - (j + 1)) (L := L) (c := fun k => (ys[j + k]?.getD 0).toNat) (g := fun i => bldF h xs ys i j) hg (fun i i' hi hi' h1 h2 => by
      simp only [bldF, decide_eq_true_eq, decide_eq_false_iff_not] at h1 h2
      have := ord_greedy (L := leftL h xs ys j) (by rw [hlen]; exact hi) (by rw [hlen]; exact hi') h1 h2
      rw [← hL i hi, ← hL i' hi'] at this
      omega) _ Y hr hc (Nat.le_refl _)
    refine ⟨fun i => sumN (m - (j + 1)) (fun k => b1 (Y' i (k + 1))), fun i hi => ?_, fun i k => Y' i (k + 1), fun i _ => rfl, fun k hk => ?_⟩
    · rw [leftL_at xs ys hi, ← hL i hi, ← hr' i hi]
      have e2 : ∀ (n : Nat) (F : Nat → Nat), sumN (n + 1) F = F 0 + sumN n (fun k => F (k + 1)) := by
        intro n F
        induction n with
        | zero => simp [sumN]
        | succ n ih2 => rw [sumN, ih2, sumN]; omega
      rw [e2]
      simp only [h0 i hi]
      omega
    · have := hc' (k + 1) (by omega)
      rw [show j + (k + 1) = j + 1 + k by omega] at this
      exact this
theorem bld_sums {h m : Nat} {xs ys : List Int} (hx : xs.length = h) (hy : ∀ j, j < m → ∃ s : Nat, ys[j]?.getD 0 = (s : Int) ∧ s ≤ h) (Z : Nat → Nat → Bool) (hz1 : ∀ i, i < h → ((sumN m (fun k => b1 (Z i k)) : Nat) : Int) = xs[i]?.getD 0)
    (hz2 : ∀ k, k < m → ((sumN h (fun i => b1 (Z i k)) : Nat) : Int) = ys[k]?.getD 0) :
    (∀ i, i < h → ((sumN m (fun j => b1 (bldF h xs ys i j)) : Nat) : Int) = xs[i]?.getD 0) ∧ ∀ j, j < m → ((sumN h (fun i => b1 (bldF h xs ys i j)) : Nat) : Int) = ys[j]?.getD 0 := by
  constructor
  · intro i hi
    have hall : ∀ j, (leftL h xs ys j)[i]?.getD 0 + ((sumN j (fun k => b1 (bldF h xs ys i k)) : Nat) : Int) = xs[i]?.getD 0 := by
      intro j
      induction j with
      | zero => simp [leftL, sumN]
      | succ j ih =>
        rw [leftL_at xs ys hi, sumN]
        omega
    obtain ⟨L, hL, Y, hr, _⟩ := bld_ex hx hy Z hz1 hz2 m (Nat.le_refl _)
    have h1 := hall m
    have h2 := hr i hi
    rw [Nat.sub_self] at h2
    simp only [sumN] at h2
    have h3 := hL i hi
    omega
  · intro j hj
    obtain ⟨s, hs, hsh⟩ := hy j hj
    have hlen := leftL_len ys hx j
    have hperm : (ordL (leftL h xs ys j)).Perm (iotaL h) := by have := ordL_perm (leftL h xs ys j); rwa [hlen] at this
    have := plc_count hperm s hsh
    simp only [bldF, hs, Int.toNat_natCast]
    rw [this]
/-- a column's count is at most the row counts cut off -/
theorem weak_dual : ∀ (xs : List Int) (K : List Nat), K.Nodup → (∀ x ∈ K, x < 6) → (K.map (fun j => ((ccnt xs j : Nat) : Int))).sum ≤ mSum (rsum xs) (K.length : Nat)
  | [], K, _, _ => by
    have e : K.map (fun j => ((ccnt [] j : Nat) : Int)) = K.map (fun _ => (0 : Int)) := List.map_congr_left (fun _ _ => by simp [ccnt])
    rw [e]
    have : (K.map (fun _ => (0 : Int))).sum = 0 := by
      clear e
      induction K with
      | nil => rfl
      | cons k K ih => rw [List.map_cons, List.sum_cons, ih (by simp_all) (by simp_all)]; rfl
    rw [this]
    simp [rsum, mSum]
  | a :: l, K, hd, hK => by
    have ih := weak_dual l K hd hK
    have e : (K.map (fun j => ((ccnt (a :: l) j : Nat) : Int))).sum = (K.map (fun j => ((ccnt l j : Nat) : Int))).sum + ((K.countP (fun j => a.toNat.testBit j) : Nat) : Int) := by
      clear ih hd hK
      induction K with
      | nil => rfl
      | cons k K ih2 =>
        rw [List.map_cons, List.sum_cons, ih2, List.map_cons, List.sum_cons, List.countP_cons, ccnt, List.countP_cons, ← ccnt]
        by_cases hb : a.toNat.testBit k = true <;> simp [hb] <;> omega
    have h1 : K.countP (fun j => a.toNat.testBit j) ≤ K.length := List.countP_le_length
    have h2 : K.countP (fun j => a.toNat.testBit j) ≤ pop a.toNat := by
      rw [pop, List.countP_eq_length_filter, List.countP_eq_length_filter]
      refine nodup_sub (hd.filter _) (fun x hx => ?_)
      rw [List.mem_filter] at hx ⊢
      exact ⟨List.mem_range.2 (hK x hx.1), hx.2⟩
    rw [e, rsum, List.map_cons, mSum, List.map_cons, List.sum_cons]
    rw [rsum, mSum] at ih
    omega
theorem ord_dsort (C : List Int) : (ordL C).map (keyL C) = dsort C := by
  refine dsort_uniq ?_ ?_
  · have h1 := (ordL_perm C).map (keyL C)
    have h2 : (iotaL C.length).map (keyL C) = C := by
      apply List.ext_getElem
      · simp [iotaL]
      · intro i g1 g2
        simp [iotaL, keyL, List.getElem?_eq_getElem g2]
    rwa [h2] at h1
  · rw [List.pairwise_map]
    exact (ordL_sorted C).imp (fun {a b} h => by unfold befL at h; omega)
/-- the sums of an image are consistent -/
theorem consB_image {m : Nat} {xs : List Int} (h : okB (m : Int) xs = true) (hv : sV (rsum xs) (csum m xs) = true) (hs : (rsum xs).sum = (csum m xs).sum) : consB (rsum xs) (csum m xs) = true := by
  have hb := okB_bd h
  rw [consB, hv, hs, decide_eq_true rfl, Bool.true_and, Bool.true_and, List.all_eq_true]
  intro k _
  rw [decide_eq_true_eq, exc, tSum, ← ord_dsort, ← List.map_take]
  have hcl : (csum m xs).length = m := by simp [csum]
  have hnn : ∀ x ∈ (ordL (csum m xs)).take k, ∃ j : Nat, x = (j : Int) ∧ j < m := by
    intro x hx
    have := ordL_mem.1 (List.mem_of_mem_take hx)
    rw [hcl] at this
    exact ⟨x.toNat, by omega, by omega⟩
  have e1 : ((ordL (csum m xs)).take k).map (keyL (csum m xs)) = (((ordL (csum m xs)).take k).map Int.toNat).map (fun j => ((ccnt xs j : Nat) : Int)) := by
    rw [List.map_map]
    refine List.map_congr_left (fun x hx => ?_)
    obtain ⟨j, rfl, hj⟩ := hnn x hx
    simp [keyL, csum, List.getElem?_map, List.getElem?_range hj]
  have hK : (((ordL (csum m xs)).take k).map Int.toNat).Nodup := by
    have h1 : ((ordL (csum m xs)).take k).Nodup := (ordL_nodup (csum m xs)).sublist (List.take_sublist _ _)
    rw [List.Nodup, List.pairwise_map]
    refine List.Pairwise.imp_of_mem (fun {a b} ha hb hne => ?_) h1
    obtain ⟨i, rfl, _⟩ := hnn a ha
    obtain ⟨j, rfl, _⟩ := hnn b hb
    intro e
    apply hne
    rw [Int.toNat_natCast, Int.toNat_natCast] at e
    rw [e]
  have h2 := weak_dual xs _ hK (fun x hx => by
    obtain ⟨y, hy, rfl⟩ := List.mem_map.1 hx
    obtain ⟨j, rfl, hj⟩ := hnn y hy
    simp
    omega)
  rw [e1]
  have h3 : mSum (rsum xs) ((((ordL (csum m xs)).take k).map Int.toNat).length : Nat) ≤ mSum (rsum xs) (k : Nat) := by
    rw [List.length_map, List.length_take]
    have hle : ((min k (ordL (csum m xs)).length : Nat) : Int) ≤ (k : Int) := by omega
    generalize ((min k (ordL (csum m xs)).length : Nat) : Int) = u at hle ⊢
    generalize (k : Int) = v at hle ⊢
    clear h2 e1 hK hnn
    unfold mSum
    induction rsum xs with
    | nil => simp
    | cons a l ih => simp only [List.map_cons, List.sum_cons]; omega
  omega
/-- what is built -/
def bldW (xs ys : List Int) : Int := if consB xs ys then ys.length else 0
def bldX (xs ys : List Int) : List Int := if consB xs ys then img (bldF xs.length xs ys) xs.length ys.length else []
theorem sum_cells (xs : List Int) (m : Nat) (hx : okB (m : Int) xs = true) : (rsum xs).sum = (csum m xs).sum := by
  have hb := okB_bd hx
  have key : ∀ zs : List Int, (∀ z ∈ zs, ∃ r : Nat, z = (r : Int) ∧ r < 2 ^ m) → (rsum zs).sum = (csum m zs).sum := by
    intro zs
    induction zs with
    | nil =>
      intro _
      have : (csum m []).sum = 0 := sum_zero (fun j hj => by rw [csum_len] at hj; simp [csum, List.getElem?_map, List.getElem?_range hj, ccnt])
      rw [this]
      rfl
    | cons a l ih =>
      intro hz
      obtain ⟨r, rfl, hr⟩ := hz a (List.mem_cons_self ..)
      have ih' := ih (fun z hz' => hz z (List.mem_cons_of_mem _ hz'))
      have e1 : (rsum ((r : Int) :: l)).sum = ((pop r : Nat) : Int) + (rsum l).sum := by simp [rsum]
      have e2 : ∀ k, (csum k ((r : Int) :: l)).sum = ((popK r k : Nat) : Int) + (csum k l).sum := by
        intro k
        induction k with
        | zero => simp [csum, popK]
        | succ k ih2 =>
          have hbb : r / 2 ^ k % 2 = b1 (r.testBit k) := bit_nat r k
          rw [← csum_step, ← csum_step, List.sum_append, List.sum_append, ih2, popK_step, hbb, ccnt_cons, Int.toNat_natCast]
          simp only [List.sum_cons, List.sum_nil]
          omega
      rw [e1, e2 m, ih', popK_pop hr (by omega)]
  refine key xs (fun z hz => ?_)
  obtain ⟨i, hi, rfl⟩ := List.mem_iff_getElem.1 hz
  obtain ⟨r, e1, e2⟩ := okB_cell hx hi
  rw [List.getElem?_eq_getElem hi, Option.getD_some] at e1
  exact ⟨r, e1, e2⟩
theorem bld_image {m : Nat} {xs : List Int} (h : okB (m : Int) xs = true) (hv : sV (rsum xs) (csum m xs) = true) :
    consB (rsum xs) (csum m xs) = true ∧ bldW (rsum xs) (csum m xs) = (m : Int) ∧ okB (m : Int) (bldX (rsum xs) (csum m xs)) = true ∧ (bldX (rsum xs) (csum m xs)).length = xs.length ∧ rsum (bldX (rsum xs) (csum m xs)) = rsum xs ∧ csum m (bldX (rsum xs) (csum m xs)) = csum m xs := by
  have hb := okB_bd h
  have hc := consB_image h hv (sum_cells xs m h)
  have hcl : (csum m xs).length = m := by simp [csum]
  have hrl : (rsum xs).length = xs.length := by simp [rsum]
  have hX : bldX (rsum xs) (csum m xs) = img (bldF xs.length (rsum xs) (csum m xs)) xs.length m := by rw [bldX, if_pos hc, hrl, hcl]
  have hrv : ∀ i, i < xs.length → ((sumN m (fun k => b1 (cellF xs i k)) : Nat) : Int) = (rsum xs)[i]?.getD 0 := by
    intro i hi
    obtain ⟨r, e1, e2⟩ := okB_cell h hi
    have e3 : (rsum xs)[i]?.getD 0 = ((pop r : Nat) : Int) := by
      rw [List.getElem?_eq_getElem hi, Option.getD_some] at e1
      simp [rsum, List.getElem?_map, List.getElem?_eq_getElem hi, e1]
    rw [e3, pop_sumN (by omega) e2]
    congr 1
    exact sumN_congr (fun k _ => by simp [cellF, e1])
  have hcv : ∀ k, k < m → ((sumN xs.length (fun i => b1 (cellF xs i k)) : Nat) : Int) = (csum m xs)[k]?.getD 0 := by
    intro k hk
    have e3 : (csum m xs)[k]?.getD 0 = ((ccnt xs k : Nat) : Int) := by simp [csum, List.getElem?_map, List.getElem?_range hk]
    rw [e3, ccnt, countP_sum]
    rfl
  obtain ⟨s1, s2⟩ := bld_sums (h := xs.length) (m := m) hrl (fun j hj => ⟨ccnt xs j, by simp [csum, List.getElem?_map, List.getElem?_range hj], ccnt_le xs j⟩) (cellF xs) hrv hcv
  have hok : okB (m : Int) (bldX (rsum xs) (csum m xs)) = true := by rw [hX]; exact okB_img (by omega) (by omega) (by omega) (by omega)
  have hlen : (bldX (rsum xs) (csum m xs)).length = xs.length := by rw [hX, img_len]
  refine ⟨hc, by rw [bldW, if_pos hc, hcl], hok, hlen, ?_, ?_⟩
  · clear hok
    generalize bldX (rsum xs) (csum m xs) = Y at hX hlen ⊢
    generalize bldF xs.length (rsum xs) (csum m xs) = F at hX s1
    apply List.ext_getElem
    · rw [rsum_len, rsum_len, hlen]
    · intro i g1 g2
      have hi : i < xs.length := by rw [rsum_len] at g2; exact g2
      have hi2 : i < Y.length := by rw [hlen]; exact hi
      have e := s1 i hi
      rw [List.getElem?_eq_getElem g2, Option.getD_some] at e
      rw [← e]
      have e5 : Y[i]?.getD 0 = ((mkRow (F i) m : Nat) : Int) := by rw [hX]; exact img_get hi
      rw [List.getElem?_eq_getElem hi2, Option.getD_some] at e5
      simp only [rsum, List.getElem_map]
      rw [e5, Int.toNat_natCast, pop_sumN (by omega) (mkRow_lt _ _)]
      congr 1
      exact sumN_congr (fun k hk => by rw [testBit_mkRow]; simp [hk])
  · clear hok
    generalize bldX (rsum xs) (csum m xs) = Y at hX hlen ⊢
    generalize bldF xs.length (rsum xs) (csum m xs) = F at hX s2
    apply List.ext_getElem
    · rw [csum_len, csum_len]
    · intro j g1 g2
      have hj : j < m := by rw [csum_len] at g2; exact g2
      have e := s2 j hj
      rw [List.getElem?_eq_getElem g2, Option.getD_some] at e
      rw [← e]
      simp only [csum, List.getElem_map, List.getElem_range]
      rw [ccnt, countP_sum, hlen]
      congr 1
      refine sumN_congr (fun i hi => ?_)
      have := cellF_img' (f := F) (h := xs.length) (m := m) hi hj
      rw [← hX] at this
      rw [← this]
      rfl
/-- whoever has the sums of a unique image is that image -/
theorem uniq_same {m : Nat} {xs zs : List Int} (hu : uniqB (m : Int) xs = true) (hz : okB (m : Int) zs = true) (hl : zs.length = xs.length) (hr : rsum zs = rsum xs) (hc : csum m zs = csum m xs) : zs = xs := by
  have hk := uniqB_ok hu
  have hs : ∀ y : List Int, okB (m : Int) y = true → rSums (m : Int) y = rsum y ∧ cSums (m : Int) y = csum m y := fun y hy => ⟨by simp [rSums, hy], by simp [cSums, hy]⟩
  have hsame := same2_of hk hz (by rw [(hs xs hk).1, (hs zs hz).1, hr]) (by rw [(hs xs hk).2, (hs zs hz).2, hc])
  obtain ⟨n, hp, hn⟩ := way _ hk hz hl.symm hsame.2 (Nat.le_refl _)
  have hsw : swList m xs = [] := by
    rw [uniqB, Bool.and_eq_true, Int.toNat_natCast, decide_eq_true_eq] at hu
    exact hu.2
  have hnb : nbrs m xs = [] := by rw [nbrs, hsw]; rfl
  have key : ∀ {n : Nat} {y : List Int}, Path m xs y n → y = xs := by
    intro n y hp
    induction hp with
    | nil => rfl
    | @step y z n' hp hz ih =>
      rw [ih, hnb] at hz
      cases hz
  exact key hp
end Go.Proofs.YtkcdoacojiilaaaGreat
