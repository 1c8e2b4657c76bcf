
/- Plain facts and walks that the law's proof uses; each says its own conditions. -/
import Derived.Test.YtkcdoacojiilaaaGreatNr
import Derived.Test.YtkcdoacojiilaaaGreatCl
-- Plain mathematics: turned images, other cells and neighbors reach as many.
namespace Go.Proofs.YtkcdoacojiilaaaGreat

theorem nodup_sub {α : Type} [DecidableEq α] : ∀ {l l' : List α}, l.Nodup → (∀ x ∈ l, x ∈ l') → l.length ≤ l'.length
  | [], _, _, _ => Nat.zero_le _
  | a :: l, l', h, hs => by
    have ha := hs a (List.mem_cons_self ..)
    have h1 := nodup_sub (l := l) (l' := l'.erase a) (List.nodup_cons.1 h).2 (fun x hx => (List.mem_erase_of_ne (fun e => (List.nodup_cons.1 h).1 (by rw [← e]; exact hx))).2 (hs x (List.mem_cons_of_mem _ hx)))
    have h2 := List.length_erase_of_mem ha
    have h3 := List.length_pos_of_mem ha
    simp only [List.length_cons]
    omega
theorem reach_le {m m' : Nat} {xs xs' : List Int} (h' : okB (m' : Int) xs' = true) (f : List Int → List Int) (hf : ∀ y k, Path m xs y k → ∃ k', Path m' xs' (f y) k')
    (inj : ∀ y z k k', Path m xs y k → Path m xs z k' → f y = f z → y = z) : (reach m xs).length ≤ (reach m' xs').length := by
  have h1 := nodup_sub (l := ((reach m xs).map (·.1)).map f) (l' := (reach m' xs').map (·.1)) (by
    rw [List.nodup_iff_pairwise_ne, List.pairwise_map]
    refine List.Pairwise.imp_of_mem ?_ (List.nodup_iff_pairwise_ne.1 (reach_nodup m xs))
    intro a b ha hb hne e
    obtain ⟨p, hp, rfl⟩ := List.mem_map.1 ha
    obtain ⟨q, hq, rfl⟩ := List.mem_map.1 hb
    exact hne (inj _ _ _ _ (reach_path hp) (reach_path hq) e)) (by
    intro x hx
    obtain ⟨y, hy, rfl⟩ := List.mem_map.1 hx
    obtain ⟨p, hp, rfl⟩ := List.mem_map.1 hy
    obtain ⟨k', hk'⟩ := hf _ _ (reach_path hp)
    obtain ⟨g, hg, e, _⟩ := reach_all h' hk'
    exact List.mem_map.2 ⟨g, hg, e⟩)
  simpa using h1

/-- rows and columns exchanged -/
def turnL (m : Nat) (xs : List Int) : List Int := img (fun c t => cellF xs t c) m xs.length
theorem turnL_len (m : Nat) (xs : List Int) : (turnL m xs).length = m := by simp [turnL, img_len]
theorem turnL_ok {m : Nat} {xs : List Int} (h : okB (m : Int) xs = true) : okB (xs.length : Int) (turnL m xs) = true := by
  have := okB_bd h
  exact okB_img (by omega) (by omega) (by omega) (by omega)
theorem turnL_cell {m : Nat} {xs : List Int} {i j : Nat} (hi : i < m) (hj : j < xs.length) : cellF (turnL m xs) i j = cellF xs j i := cellF_img' hi hj
theorem turnL_back {m : Nat} {xs : List Int} (h : okB (m : Int) xs = true) : turnL xs.length (turnL m xs) = xs := by
  rw [turnL, turnL_len]
  rw [img_congr (g := cellF xs) (fun i hi j hj => turnL_cell hj hi)]
  exact img_self h
theorem turnL_nbr {m : Nat} {xs y : List Int} (hy : y ∈ nbrs m xs) : turnL m y ∈ nbrs xs.length (turnL m xs) := by
  simp only [nbrs, List.mem_map] at hy ⊢
  obtain ⟨s, hs, rfl⟩ := hy
  obtain ⟨⟨h1, h2, h3, h4⟩, h5⟩ := mem_swList.1 hs
  refine ⟨⟨s.c, s.d, s.a, s.b⟩, mem_swList.2 ⟨⟨h3, by rw [turnL_len]; exact h4, h1, h2⟩, ?_⟩, ?_⟩
  · simp only [swOk] at h5 ⊢
    rw [turnL_cell h4 h2, turnL_cell (by omega) (by omega : s.a < _), turnL_cell (by omega) h2, turnL_cell h4 (by omega : s.a < _)]
    simp only [Bool.and_eq_true] at h5 ⊢
    exact ⟨⟨h5.1.1, h5.2⟩, h5.1.2⟩
  · rw [swDo, turnL_len]
    conv => rhs; rw [turnL, swDo_len]
    refine img_congr fun i hi j hj => ?_
    rw [turnL_cell hi hj, swDo_cell hj hi]
    congr 1
    simp only [inSw]
    rw [Bool.and_comm]
theorem turnL_path {m k : Nat} {xs y : List Int} (h : okB (m : Int) xs = true) (hp : Path m xs y k) : Path xs.length (turnL m xs) (turnL m y) k := by
  induction hp with
  | nil => exact .nil
  | step hp hz ih =>
    have h1 := path_ok h hp
    have h2 := turnL_nbr hz
    rw [h1.2] at h2
    exact .step ih h2
theorem turnL_inj {m : Nat} {y z : List Int} (hy : okB (m : Int) y = true) (hz : okB (m : Int) z = true) (hl : y.length = z.length) (e : turnL m y = turnL m z) : y = z := by
  rw [← turnL_back hy, ← turnL_back hz, e, hl]
theorem reach_turn_le {m : Nat} {xs : List Int} (h : okB (m : Int) xs = true) : (reach m xs).length ≤ (reach xs.length (turnL m xs)).length :=
  reach_le (turnL_ok h) (turnL m) (fun _ k hp => ⟨k, turnL_path h hp⟩) (fun _ _ _ _ hp hq e => turnL_inj (path_ok h hp).1 (path_ok h hq).1 ((path_ok h hp).2.trans (path_ok h hq).2.symm) e)
theorem reach_turn {m : Nat} {xs : List Int} (h : okB (m : Int) xs = true) : (reach xs.length (turnL m xs)).length = (reach m xs).length := by
  have h1 := reach_turn_le h
  have h2 := reach_turn_le (turnL_ok h)
  rw [turnL_len, turnL_back h] at h2
  omega

/-- all cells changed -/
def otherL (m : Nat) (xs : List Int) : List Int := img (fun i j => !cellF xs i j) xs.length m
theorem otherL_len (m : Nat) (xs : List Int) : (otherL m xs).length = xs.length := by simp [otherL, img_len]
theorem otherL_ok {m : Nat} {xs : List Int} (h : okB (m : Int) xs = true) : okB (m : Int) (otherL m xs) = true := by
  have := okB_bd h
  exact okB_img (by omega) (by omega) (by omega) (by omega)
theorem otherL_cell {m : Nat} {xs : List Int} {i j : Nat} (hi : i < xs.length) (hj : j < m) : cellF (otherL m xs) i j = !cellF xs i j := cellF_img' hi hj
theorem otherL_back {m : Nat} {xs : List Int} (h : okB (m : Int) xs = true) : otherL m (otherL m xs) = xs := by
  rw [otherL, otherL_len]
  rw [img_congr (g := cellF xs) (fun i hi j hj => by rw [otherL_cell hi hj, Bool.not_not])]
  exact img_self h
theorem otherL_nbr {m : Nat} {xs y : List Int} (hy : y ∈ nbrs m xs) : otherL m y ∈ nbrs m (otherL m xs) := by
  simp only [nbrs, List.mem_map] at hy ⊢
  obtain ⟨s, hs, rfl⟩ := hy
  obtain ⟨⟨h1, h2, h3, h4⟩, h5⟩ := mem_swList.1 hs
  refine ⟨s, mem_swList.2 ⟨⟨h1, by rw [otherL_len]; exact h2, h3, h4⟩, ?_⟩, ?_⟩
  · simp only [swOk] at h5 ⊢
    rw [otherL_cell h2 h4, otherL_cell (by omega) (by omega : s.c < _), otherL_cell (by omega) h4, otherL_cell h2 (by omega : s.c < _)]
    revert h5
    generalize cellF xs s.b s.d = p; generalize cellF xs s.a s.c = q; generalize cellF xs s.a s.d = r; generalize cellF xs s.b s.c = t
    revert p q r t; decide
  · rw [swDo, otherL_len]
    conv => rhs; rw [otherL, swDo_len]
    refine img_congr fun i hi j hj => ?_
    rw [otherL_cell hi hj, swDo_cell hi hj]
    generalize cellF xs i j = p; generalize inSw s i j = q
    revert p q; decide
theorem otherL_path {m k : Nat} {xs y : List Int} (hp : Path m xs y k) : Path m (otherL m xs) (otherL m y) k := by
  induction hp with
  | nil => exact .nil
  | step hp hz ih => exact .step ih (otherL_nbr hz)
theorem reach_other_le {m : Nat} {xs : List Int} (h : okB (m : Int) xs = true) : (reach m xs).length ≤ (reach m (otherL m xs)).length :=
  reach_le (otherL_ok h) (otherL m) (fun _ k hp => ⟨k, otherL_path hp⟩) (fun _ _ _ _ hp hq e => by rw [← otherL_back (path_ok h hp).1, ← otherL_back (path_ok h hq).1, e])
theorem reach_other {m : Nat} {xs : List Int} (h : okB (m : Int) xs = true) : (reach m (otherL m xs)).length = (reach m xs).length := by
  have h1 := reach_other_le h
  have h2 := reach_other_le (otherL_ok h)
  rw [otherL_back h] at h2
  omega

theorem reach_nbr {m k : Nat} {xs y : List Int} (h : okB (m : Int) xs = true) (hy : Path m xs y k) : (reach m y).length = (reach m xs).length := by
  have h1 := path_ok h hy
  have h2 := reach_le h id (m := m) (xs := y) (fun z k' hp => ⟨_, hy.trans hp⟩) (fun _ _ _ _ _ _ e => e)
  have h3 := reach_le h1.1 id (m := m) (xs := xs) (fun z k' hp => ⟨_, (hy.back h).trans hp⟩) (fun _ _ _ _ _ _ e => e)
  omega
theorem reach_first {m : Nat} {xs : List Int} (h : okB (m : Int) xs = true) : xs ∈ (reach m xs).map (·.1) := by
  obtain ⟨f, hf, e, _⟩ := reach_all h Path.nil
  exact List.mem_map.2 ⟨f, hf, e⟩
theorem nbr_ne {m : Nat} {xs y : List Int} (hy : y ∈ nbrs m xs) : y ≠ xs := by
  simp only [nbrs, List.mem_map] at hy
  obtain ⟨s, hs, rfl⟩ := hy
  obtain ⟨⟨h1, h2, h3, h4⟩, h5⟩ := mem_swList.1 hs
  intro e
  have := swDo_cell (m := m) (xs := xs) (s := s) (i := s.a) (j := s.c) (by omega) (by omega)
  rw [e] at this
  revert this
  simp [inSw]
theorem reach_one {m : Nat} {xs : List Int} (h : okB (m : Int) xs = true) : (reach m xs).length = 1 ↔ nbrs m xs = [] := by
  constructor
  · intro h1
    cases hn : nbrs m xs with
    | nil => rfl
    | cons y ys =>
      have hy : y ∈ nbrs m xs := by rw [hn]; exact List.mem_cons_self ..
      obtain ⟨f, hf, e, _⟩ := reach_all h (Path.step Path.nil hy)
      have h2 := nodup_sub (l := [y, xs]) (l' := (reach m xs).map (·.1)) (by simp [nbr_ne hy]) (by
        intro x hx
        simp only [List.mem_cons, List.not_mem_nil, or_false] at hx
        rcases hx with rfl | rfl
        · exact List.mem_map.2 ⟨f, hf, e⟩
        · exact reach_first h)
      simp at h2
      omega
  · intro h1
    have hp : ∀ y k, Path m xs y k → y = xs := by
      intro y k hp
      induction hp with
      | nil => rfl
      | step hp hz ih => subst ih; rw [h1] at hz; cases hz
    have h2 := nodup_sub (l := (reach m xs).map (·.1)) (l' := [xs]) (reach_nodup m xs) (by
      intro x hx
      obtain ⟨p, hp1, rfl⟩ := List.mem_map.1 hx
      rw [hp _ _ (reach_path hp1)]; simp)
    have h3 := List.length_pos_of_mem (reach_first h)
    simp at h2 h3
    omega

theorem reachW_ge {W : Int} {xs : List Int} (h : 0 ≤ reachW W xs) : ∃ m : Nat, W = m ∧ okB (m : Int) xs = true ∧ xs.length * m ≤ 16 ∧ reachW W xs = (reach m xs).length := by
  unfold reachW at h ⊢
  split at h
  · rename_i h1
    have hb := okB_bd h1.1
    obtain ⟨m, rfl⟩ := Int.eq_ofNat_of_zero_le (show 0 ≤ W by omega)
    rw [if_pos h1]
    exact ⟨m, rfl, h1.1, by simpa using h1.2, by rw [Int.toNat_natCast]⟩
  · omega
theorem reachW_at {m : Nat} {xs : List Int} (h : okB (m : Int) xs = true) (hc : xs.length * m ≤ 16) : reachW (m : Int) xs = ((reach m xs).length : Int) := by
  rw [reachW, if_pos ⟨h, by simpa using hc⟩, Int.toNat_natCast]
theorem turn_is {m : Nat} {xs : List Int} (h : okB (m : Int) xs = true) : turnW (m : Int) xs = (xs.length : Int) ∧ turnX (m : Int) xs = turnL m xs := by
  simp [turnW, turnX, turnL, h]
theorem other_is {m : Nat} {xs : List Int} (h : okB (m : Int) xs = true) : otherW (m : Int) xs = (m : Int) ∧ otherX (m : Int) xs = otherL m xs := by
  simp [otherW, otherX, otherL, h]
theorem reachW_turn {m : Nat} {xs : List Int} (h : okB (m : Int) xs = true) (hc : xs.length * m ≤ 16) : reachW (xs.length : Int) (turnL m xs) = ((reach m xs).length : Int) := by
  rw [reachW_at (turnL_ok h) (by rw [turnL_len, Nat.mul_comm]; exact hc), reach_turn h]
theorem reachW_other {m : Nat} {xs : List Int} (h : okB (m : Int) xs = true) (hc : xs.length * m ≤ 16) : reachW (m : Int) (otherL m xs) = ((reach m xs).length : Int) := by
  rw [reachW_at (otherL_ok h) (by rw [otherL_len]; exact hc), reach_other h]
theorem reachW_nbr {m : Nat} {xs y : List Int} (h : okB (m : Int) xs = true) (hc : xs.length * m ≤ 16) (hy : y ∈ nbrs m xs) : reachW (m : Int) y = ((reach m xs).length : Int) := by
  have := nbrs_ok h hy
  rw [reachW_at this.1 (by rw [this.2]; exact hc), reach_nbr h (Path.step Path.nil hy)]
end Go.Proofs.YtkcdoacojiilaaaGreat

-- Plain mathematics: how far turned images, other cells, and the way back are.
namespace Go.Proofs.YtkcdoacojiilaaaGreat

theorem far_eq {m m' : Nat} {xs ys xs' ys' : List Int} (h : okB (m : Int) xs = true) (h' : okB (m' : Int) xs' = true) (p : ∀ k, Path m xs ys k → Path m' xs' ys' k) (p' : ∀ k, Path m' xs' ys' k → Path m xs ys k) :
    farV (reach m' xs') ys' = farV (reach m xs) ys := by
  cases hs : seen (reach m xs) ys with
  | true =>
    obtain ⟨e, he, rfl⟩ := seen_iff.1 hs
    obtain ⟨f, hf, e1, h1⟩ := reach_all h' (p _ (reach_path he))
    have hq := reach_path hf
    rw [e1] at hq
    have h2 := reach_least h he (p' _ hq)
    rw [farV_mem (reach_nodup m xs) he]
    rw [← e1, farV_mem (reach_nodup m' xs') hf]
    omega
  | false =>
    have hn : ∀ e ∈ reach m xs, e.1 ≠ ys := fun e he e1 => by rw [seen_iff.2 ⟨e, he, e1⟩] at hs; cases hs
    rw [farV_no hn]
    refine farV_no fun f hf e1 => ?_
    have hq := reach_path hf
    rw [e1] at hq
    obtain ⟨e, he, e2, _⟩ := reach_all h (p' _ hq)
    exact hn e he e2
theorem farW_ge {W V : Int} {xs ys : List Int} (h : 0 ≤ farW W xs V ys) : ∃ m : Nat, W = m ∧ V = m ∧ okB (m : Int) xs = true ∧ okB (m : Int) ys = true ∧ xs.length = ys.length ∧ xs.length * m ≤ 12 ∧ farW W xs V ys = farV (reach m xs) ys := by
  unfold farW at h ⊢
  split at h
  · rename_i h1
    obtain ⟨h1, h2, h3, h4, h5⟩ := h1
    have hb := okB_bd h1
    obtain ⟨m, rfl⟩ := Int.eq_ofNat_of_zero_le (show 0 ≤ W by omega)
    subst h3
    rw [if_pos ⟨h1, h2, rfl, h4, h5⟩]
    exact ⟨m, rfl, rfl, h1, h2, h4, by simpa using h5, by rw [Int.toNat_natCast]⟩
  · omega
theorem farW_at {m : Nat} {xs ys : List Int} (h : okB (m : Int) xs = true) (h' : okB (m : Int) ys = true) (hl : xs.length = ys.length) (hc : xs.length * m ≤ 12) : farW (m : Int) xs (m : Int) ys = farV (reach m xs) ys := by
  rw [farW, if_pos ⟨h, h', rfl, hl, by simpa using hc⟩, Int.toNat_natCast]
theorem farW_turn {m : Nat} {xs ys : List Int} (h : okB (m : Int) xs = true) (h' : okB (m : Int) ys = true) (hl : xs.length = ys.length) (hc : xs.length * m ≤ 12) : farW (xs.length : Int) (turnL m xs) (ys.length : Int) (turnL m ys) = farV (reach m xs) ys := by
  have h2 := turnL_ok h'
  rw [← hl] at h2 ⊢
  rw [farW_at (turnL_ok h) h2 (by rw [turnL_len, turnL_len]) (by rw [turnL_len, Nat.mul_comm]; exact hc)]
  refine far_eq h (turnL_ok h) (fun k hp => turnL_path h hp) (fun k hp => ?_)
  have := turnL_path (turnL_ok h) hp
  rw [turnL_len, turnL_back h] at this
  have e := turnL_back h'
  rw [← hl] at e
  rw [e] at this
  exact this
theorem farW_other {m : Nat} {xs ys : List Int} (h : okB (m : Int) xs = true) (h' : okB (m : Int) ys = true) (hl : xs.length = ys.length) (hc : xs.length * m ≤ 12) : farW (m : Int) (otherL m xs) (m : Int) (otherL m ys) = farV (reach m xs) ys := by
  rw [farW_at (otherL_ok h) (otherL_ok h') (by rw [otherL_len, otherL_len]; exact hl) (by rw [otherL_len]; exact hc)]
  refine far_eq h (otherL_ok h) (fun k hp => otherL_path hp) (fun k hp => ?_)
  have := otherL_path hp
  rwa [otherL_back h, otherL_back h'] at this
theorem farW_back {m : Nat} {xs ys : List Int} (h : okB (m : Int) xs = true) (h' : okB (m : Int) ys = true) (hl : xs.length = ys.length) (hc : xs.length * m ≤ 12) : farW (m : Int) ys (m : Int) xs = farV (reach m xs) ys := by
  rw [farW_at h' h hl.symm (by rw [← hl]; exact hc)]
  exact far_eq h h' (fun k hp => hp.back h) (fun k hp => hp.back h')
theorem farV_ge {m : Nat} {xs ys : List Int} (h : 0 ≤ farV (reach m xs) ys) : ∃ e ∈ reach m xs, e.1 = ys ∧ farV (reach m xs) ys = e.2 := by
  cases hs : seen (reach m xs) ys with
  | true =>
    obtain ⟨e, he, rfl⟩ := seen_iff.1 hs
    exact ⟨e, he, rfl, farV_mem (reach_nodup m xs) he⟩
  | false =>
    rw [farV_no (fun e he e1 => by rw [seen_iff.2 ⟨e, he, e1⟩] at hs; cases hs)] at h
    omega
theorem farV_bd {m : Nat} {xs ys : List Int} (hc : xs.length * m ≤ 12) : farV (reach m xs) ys ≤ 65536 := by
  rcases Int.lt_or_le (farV (reach m xs) ys) 0 with h1 | h1
  · omega
  · obtain ⟨e, he, _, h2⟩ := farV_ge h1
    rw [h2]
    have h3 := bfs_dist m xs _ e he
    have h4 : 2 ^ (xs.length * m) ≤ 2 ^ 12 := Nat.pow_le_pow_right (by omega) hc
    omega
theorem far_zero {m : Nat} {xs ys : List Int} (h : okB (m : Int) xs = true) (h0 : 0 ≤ farV (reach m xs) ys) : farV (reach m xs) ys = 0 ↔ xs = ys := by
  obtain ⟨e, he, e1, e2⟩ := farV_ge h0
  constructor
  · intro h1
    have hp := reach_path he
    rw [e1, show e.2 = 0 by omega] at hp
    cases hp; rfl
  · intro h1
    subst h1
    have := reach_least h he (n := 0) (by rw [e1]; exact Path.nil)
    omega
theorem far_one {m : Nat} {xs ys : List Int} (h : okB (m : Int) xs = true) (h0 : 0 ≤ farV (reach m xs) ys) : farV (reach m xs) ys = 1 ↔ ys ∈ nbrs m xs := by
  have hz := far_zero h h0
  obtain ⟨e, he, e1, e2⟩ := farV_ge h0
  constructor
  · intro h1
    have hp := reach_path he
    rw [e1, show e.2 = 0 + 1 by omega] at hp
    cases hp with
    | step hp hz => cases hp; exact hz
  · intro h1
    have h2 := reach_least h he (n := 0 + 1) (by rw [e1]; exact Path.step Path.nil h1)
    have h3 : ¬ farV (reach m xs) ys = 0 := fun h4 => nbr_ne h1 (hz.1 h4).symm
    omega
end Go.Proofs.YtkcdoacojiilaaaGreat
