
/- Plain mathematics: an image that cannot be filled further has as many cells as any that fills the sums. -/
import Derived.Test.YtkcdoacojiilaaaGreatMathFl
import Derived.Test.YtkcdoacojiilaaaGreatKo
namespace Go.Proofs.YtkcdoacojiilaaaGreat

/-- an image fills sums -/
structure FitX (h m : Nat) (rs ys xs : List Int) : Prop where
  ok : okB (m : Int) xs = true
  len : xs.length = h
  row : ∀ i, i < h → ((popI xs i : Nat) : Int) ≤ rs[i]?.getD 0
  col : ∀ j, j < m → ((ccnt xs j : Nat) : Int) ≤ ys[j]?.getD 0
def manyX (h : Nat) (xs : List Int) : Nat := sumN h (popI xs)
def nextX (h m : Nat) (rs ys xs : List Int) : Option (List Int) := match srchAll h (h + m) xs rs ys with
  | (some t, par) => some (flipB h par (h + m + 1) xs t)
  | (none, _) => none
def fillN (h m : Nat) (rs ys : List Int) : Nat → List Int → List Int
  | 0, xs => xs
  | f + 1, xs => match nextX h m rs ys xs with
    | none => xs
    | some z => fillN h m rs ys f z
theorem next_fit {h m : Nat} {rs ys xs z : List Int} (hf : FitX h m rs ys xs) (e : nextX h m rs ys xs = some z) : FitX h m rs ys z ∧ manyX h z = manyX h xs + 1 := by
  rw [nextX] at e
  rcases srch_ok (h := h) (n := h + m) (xs := xs) (rs := rs) (ys := ys) (h + m + 1) 0 (parK (h + m) xs rs h) (wkK xs rs h) (bfs_start xs rs ys (by omega)) (by omega) (fun k v u hk => absurd hk (by omega)) (fun v hv => by
    have := List.mem_range.1 (List.mem_filter.1 hv).1
    simp only [lackC, Bool.and_eq_false_iff, decide_eq_false_iff_not]
    exact .inl (by omega)) with ⟨t, par, wk, e1, b, ht, htn, hl⟩ | ⟨par, wk, e1, _⟩
  · rw [srchAll, e1] at e
    injection e with e
    obtain ⟨k, hk, e2⟩ := List.mem_iff_getElem.1 ht
    have hwl := wk_len b
    obtain ⟨g1, g2, r, hr, hlr, g3, g4⟩ := flip_path b k t (by rw [List.getElem?_eq_getElem hk, e2]) xs (h + m + 1) hf.ok hf.len (fun _ _ _ _ => rfl) (by omega)
    rw [e] at g1 g2 g3 g4
    simp only [lackC, Bool.and_eq_true, decide_eq_true_eq] at hl
    simp only [lackR, decide_eq_true_eq] at hlr
    refine ⟨⟨g1, g2, fun i hi => ?_, fun j hj => ?_⟩, ?_⟩
    · have h1 := g3 i hi
      have h2 := hf.row i hi
      have h3 : ¬ i = t := by omega
      simp only [h3, decide_false, b1] at h1
      by_cases ei : i = r
      · subst ei
        simp at h1
        rw [popI] at h1 h2 ⊢
        rw [popI] at h1
        omega
      · simp [ei] at h1
        omega
    · have h1 := g4 j hj
      have h2 := hf.col j hj
      by_cases ej : h + j = t
      · have ej' : t - h = j := by omega
        rw [ej'] at hl
        simp [ej, b1] at h1
        omega
      · simp [ej, b1] at h1
        omega
    · rw [manyX, manyX]
      have := sumN_one (n := h) (F := popI z) (G := popI xs) hr (fun i hi hne => by
        have h1 := g3 i hi
        have h3 : ¬ i = t := by omega
        simp [h3, hne, b1] at h1
        exact h1)
      have h1 := g3 r hr
      have h3 : ¬ r = t := by omega
      simp [h3, b1] at h1
      omega
  · rw [srchAll, e1] at e
    cases e
theorem many_le {h m : Nat} {rs ys xs : List Int} (hf : FitX h m rs ys xs) : manyX h xs ≤ h * m := by
  refine sumN_le_mul (fun i hi => ?_)
  rw [popI_sum hf.ok (by rw [hf.len]; exact hi)]
  have := sumN_le_mul (n := m) (c := 1) (F := fun k => b1 (cellF xs i k)) (fun k _ => b1_le _)
  omega
theorem fill_fit {h m : Nat} {rs ys : List Int} : ∀ (f : Nat) (xs : List Int), FitX h m rs ys xs → FitX h m rs ys (fillN h m rs ys f xs)
  | 0, xs, hf => hf
  | f + 1, xs, hf => by
    rw [fillN]
    cases e : nextX h m rs ys xs with
    | none => exact hf
    | some z => exact fill_fit f z (next_fit hf e).1
theorem fill_end {h m : Nat} {rs ys : List Int} : ∀ (f : Nat) (xs : List Int), FitX h m rs ys xs → h * m ≤ f + manyX h xs → nextX h m rs ys (fillN h m rs ys f xs) = none
  | 0, xs, hf, hl => by
    rw [fillN]
    cases e : nextX h m rs ys xs with
    | none => rfl
    | some z =>
      have h1 := next_fit hf e
      have h2 := many_le h1.1
      omega
  | f + 1, xs, hf, hl => by
    rw [fillN]
    cases e : nextX h m rs ys xs with
    | none => exact e
    | some z =>
      have h1 := next_fit hf e
      exact fill_end f z h1.1 (by omega)
/-- the sum of some of a descending list's numbers is at most that of as many of the first -/
theorem sub_top : ∀ {d s : List Int}, d.Pairwise (fun a b => b ≤ a) → s.Sublist d → s.sum ≤ (d.take s.length).sum := by
  intro d
  induction d with
  | nil => intro s _ hs; rw [List.sublist_nil] at hs; subst hs; simp
  | cons a d ih =>
    intro s hp hs
    rw [List.pairwise_cons] at hp
    cases hs with
    | cons _ hs =>
      have h1 := ih hp.2 hs
      have key : ∀ k, k ≤ d.length → (d.take k).sum ≤ ((a :: d).take k).sum := by
        intro k
        induction k with
        | zero => simp
        | succ k ih2 =>
          intro hk
          have hk' : k < d.length := by omega
          have e1 : (d.take (k + 1)).sum = (d.take k).sum + d[k] := by rw [List.take_succ_eq_append_getElem hk', List.sum_append]; simp
          rw [e1, List.take_succ_cons, List.sum_cons]
          have := hp.1 d[k] (List.getElem_mem hk')
          omega
      exact Int.le_trans h1 (key _ hs.length_le)
    | cons_cons _ hs =>
      rw [List.length_cons, List.take_succ_cons, List.sum_cons, List.sum_cons]
      have := ih hp.2 hs
      omega
theorem sel_top (rs : List Int) (g : Nat → Bool) : ((((List.range rs.length).filter g).map (fun i => rs[i]?.getD 0)).sum : Int) ≤ tSum rs (sumN rs.length (fun i => b1 (g i))) := by
  have e : (List.range rs.length).map (fun i => rs[i]?.getD 0) = rs := by
    apply List.ext_getElem
    · simp
    · intro i h1 h2
      simp [List.getElem?_eq_getElem h2]
  have hsub : (((List.range rs.length).filter g).map (fun i => rs[i]?.getD 0)).Sublist rs := by
    have := (List.filter_sublist (l := List.range rs.length) (p := g)).map (fun i => rs[i]?.getD 0)
    rwa [e] at this
  obtain ⟨s, hs1, hs2⟩ := List.exists_perm_sublist hsub (dsort_perm rs).symm
  have h1 := sub_top (dsort_sorted rs) hs2
  have hlen : s.length = sumN rs.length (fun i => b1 (g i)) := by
    rw [hs1.length_eq, List.length_map]
    generalize rs.length = n
    induction n with
    | zero => rfl
    | succ n ih => rw [List.range_succ, List.filter_append, List.length_append, ih, sumN]; cases hg : g n <;> simp [hg, b1]
  rw [perm_sum hs1, hlen] at h1
  exact h1
theorem sum_sel {n : Nat} (F : Nat → Int) (g : Nat → Bool) : (((List.range n).filter g).map F).sum + (((List.range n).filter (fun i => !g i)).map F).sum = ((List.range n).map F).sum := by
  induction n with
  | zero => rfl
  | succ n ih =>
    rw [List.range_succ, List.filter_append, List.filter_append, List.map_append, List.map_append, List.map_append, List.sum_append, List.sum_append, List.sum_append, ← ih]
    cases hg : g n <;> simp [hg] <;> omega
theorem sumN_int {n : Nat} (F : Nat → Nat) : ((sumN n F : Nat) : Int) = ((List.range n).map (fun i => ((F i : Nat) : Int))).sum := by
  induction n with
  | zero => rfl
  | succ n ih => rw [sumN, List.range_succ, List.map_append, List.sum_append, ← ih]; simp
theorem sum_mono {n : Nat} {F G : Nat → Int} (h : ∀ i, i < n → F i ≤ G i) : ((List.range n).map F).sum ≤ ((List.range n).map G).sum := by
  induction n with
  | zero => simp
  | succ n ih =>
    rw [List.range_succ, List.map_append, List.map_append, List.sum_append, List.sum_append]
    have := ih (fun i hi => h i (by omega))
    have := h n (by omega)
    simp
    omega
theorem list_range (l : List Int) (F : Int → Int) : (l.map F).sum = ((List.range l.length).map (fun j => F (l[j]?.getD 0))).sum := by
  congr 1
  apply List.ext_getElem
  · simp
  · intro i h1 h2
    have : i < l.length := by simpa using h1
    simp [List.getElem?_eq_getElem this]
theorem sel_map {n : Nat} (F : Nat → Int) (g : Nat → Bool) : (((List.range n).filter g).map F).sum = ((List.range n).map (fun i => if g i then F i else 0)).sum := by
  induction n with
  | zero => rfl
  | succ n ih =>
    rw [List.range_succ, List.filter_append, List.map_append, List.map_append, List.sum_append, List.sum_append, ih]
    cases hg : g n <;> simp [hg]
/-- the cells in chosen rows, column by column -/
theorem rows_cols {h m : Nat} {rs ys xs : List Int} (hf : FitX h m rs ys xs) (g : Nat → Bool) : (((List.range h).filter g).map (fun i => ((popI xs i : Nat) : Int))).sum = ((List.range m).map (fun j => ((sumN h (fun i => b1 (g i && cellF xs i j)) : Nat) : Int))).sum := by
  have e1 : (((List.range h).filter g).map (fun i => ((popI xs i : Nat) : Int))).sum = ((sumN h (fun i => sumN m (fun j => b1 (g i && cellF xs i j))) : Nat) : Int) := by
    rw [sel_map, sumN_int]
    congr 1
    refine List.map_congr_left (fun i hi => ?_)
    rw [List.mem_range] at hi
    rw [popI_sum hf.ok (by rw [hf.len]; exact hi)]
    cases hg : g i with
    | true => simp
    | false =>
      have : sumN m (fun j => b1 (false && cellF xs i j)) = 0 := sumN_zero (fun j _ => by simp [b1])
      rw [this]
      rfl
  rw [e1, sumN_swap, sumN_int]
theorem many_split {h m : Nat} {rs ys xs : List Int} (hf : FitX h m rs ys xs) (g : Nat → Bool) : ((manyX h xs : Nat) : Int) = ((List.range m).map (fun j => ((sumN h (fun i => b1 (g i && cellF xs i j)) : Nat) : Int))).sum + (((List.range h).filter (fun i => !g i)).map (fun i => ((popI xs i : Nat) : Int))).sum := by
  rw [manyX, sumN_int, ← rows_cols hf g, sum_sel]
theorem rs_split {h : Nat} {rs : List Int} (hr : rs.length = h) (g : Nat → Bool) : (((List.range h).filter g).map (fun i => rs[i]?.getD 0)).sum + (((List.range h).filter (fun i => !g i)).map (fun i => rs[i]?.getD 0)).sum = rs.sum := by
  rw [sum_sel, ← hr]
  have := list_range rs id
  simp only [List.map_id, id] at this
  exact this.symm
theorem fill_cut {h m : Nat} {rs ys xs : List Int} (hr : rs.length = h) (hy : ys.length = m) (hf : FitX h m rs ys xs) (hn : nextX h m rs ys xs = none) : ∃ R, R ≤ h ∧ rs.sum - exc rs ys R ≤ ((manyX h xs : Nat) : Int) := by
  rcases srch_ok (h := h) (n := h + m) (xs := xs) (rs := rs) (ys := ys) (h + m + 1) 0 (parK (h + m) xs rs h) (wkK xs rs h) (bfs_start xs rs ys (by omega)) (by omega) (fun k v u hk => absurd hk (by omega)) (fun v hv => by
    have := List.mem_range.1 (List.mem_filter.1 hv).1
    simp only [lackC, Bool.and_eq_false_iff, decide_eq_false_iff_not]
    exact .inl (by omega)) with ⟨t, par, wk, e1, _⟩ | ⟨par, wk, e1, b, hcl, hlc⟩
  · rw [nextX, srchAll, e1] at hn
    cases hn
  have hg : ∃ g : Nat → Bool, ∀ i, g i = true ↔ i ∈ wk := ⟨fun i => decide (i ∈ wk), fun i => by simp⟩
  obtain ⟨g, hg⟩ := hg
  refine ⟨sumN h (fun i => b1 (g i)), ?_, ?_⟩
  · have := sumN_le_mul (n := h) (c := 1) (F := fun i => b1 (g i)) (fun i _ => b1_le _)
    omega
  have e2 := many_split hf g
  have e3 := rs_split hr g
  have e4 := sel_top rs g
  rw [hr] at e4
  have e5 : (((List.range h).filter (fun i => !g i)).map (fun i => ((popI xs i : Nat) : Int))).sum = (((List.range h).filter (fun i => !g i)).map (fun i => rs[i]?.getD 0)).sum := by
    congr 1
    refine List.map_congr_left (fun i hi => ?_)
    rw [List.mem_filter, List.mem_range] at hi
    have h1 := hf.row i hi.1
    have h2 : lackR xs rs i = false := by
      cases hl : lackR xs rs i with
      | false => rfl
      | true =>
        have := (hg i).2 (b.al i hi.1 hl)
        rw [this] at hi
        simp at hi
    simp only [lackR, decide_eq_false_iff_not] at h2
    rw [popI] at h1 ⊢
    omega
  have e6 : mSum ys ((sumN h (fun i => b1 (g i)) : Nat) : Int) ≤ ((List.range m).map (fun j => ((sumN h (fun i => b1 (g i && cellF xs i j)) : Nat) : Int))).sum := by
    rw [mSum, list_range, hy]
    refine sum_mono (fun j hj => ?_)
    cases hq : g (h + j) with
    | true =>
      have hm := (hg (h + j)).1 hq
      have h1 := hlc _ hm
      simp only [lackC, show h + j - h = j by omega, Bool.and_eq_false_iff, decide_eq_false_iff_not] at h1
      have h2 : sumN h (fun i => b1 (g i && cellF xs i j)) = ccnt xs j := by
        rw [ccnt_sum, hf.len]
        refine sumN_congr (fun i hi => ?_)
        cases hgi : g i with
        | true => simp
        | false =>
          have : cellF xs i j = false := by
            cases hc : cellF xs i j with
            | false => rfl
            | true =>
              have h3 := hcl _ hm i (by omega) (by
                simp only [arrF]
                rw [if_neg (by omega), if_pos (by omega), show h + j - h = j by omega]
                exact hc)
              rw [(hg i).2 h3] at hgi
              cases hgi
          simp [this]
      rw [h2]
      omega
    | false =>
      have h2 : sumN h (fun i => b1 (g i && cellF xs i j)) = sumN h (fun i => b1 (g i)) := by
        refine sumN_congr (fun i hi => ?_)
        cases hgi : g i with
        | false => simp
        | true =>
          have : cellF xs i j = true := by
            cases hc : cellF xs i j with
            | true => rfl
            | false =>
              have h3 := hcl _ ((hg i).1 hgi) (h + j) (by omega) (by
                simp only [arrF]
                rw [if_pos (by omega), show h + j - h = j by omega, hc]
                rfl)
              rw [(hg _).2 h3] at hq
              cases hq
          simp [this]
      rw [h2]
      omega
  rw [exc]
  omega
theorem fill_weak {h m : Nat} {rs ys xs : List Int} (hr : rs.length = h) (hy : ys.length = m) (hf : FitX h m rs ys xs) {t : Nat} (ht : t ≤ h) : ((manyX h xs : Nat) : Int) ≤ rs.sum - exc rs ys t := by
  have hperm : (ordL rs).Perm (iotaL h) := by have := ordL_perm rs; rwa [hr] at this
  have hol : (ordL rs).length = h := by rw [ordL_len, hr]
  obtain ⟨g, hg⟩ : ∃ g : Nat → Bool, ∀ i : Nat, g i = decide (plc (ordL rs) (i : Int) < t) := ⟨_, fun _ => rfl⟩
  have hcount : sumN h (fun i => b1 (g i)) = t := by
    rw [← plc_count hperm t ht]
    exact sumN_congr (fun i _ => by rw [hg])
  have e2 := many_split hf g
  have e3 := rs_split hr g
  have e5 : (((List.range h).filter (fun i => !g i)).map (fun i => ((popI xs i : Nat) : Int))).sum ≤ (((List.range h).filter (fun i => !g i)).map (fun i => rs[i]?.getD 0)).sum := by
    rw [sel_map, sel_map]
    refine sum_mono (fun i hi => ?_)
    split
    · exact hf.row i hi
    · exact Int.le_refl _
  have e6 : ((List.range m).map (fun j => ((sumN h (fun i => b1 (g i && cellF xs i j)) : Nat) : Int))).sum ≤ mSum ys (t : Nat) := by
    rw [mSum, list_range, hy]
    refine sum_mono (fun j hj => ?_)
    have h1 := hf.col j hj
    have h2 : sumN h (fun i => b1 (g i && cellF xs i j)) ≤ ccnt xs j := by
      rw [ccnt_sum, hf.len]
      exact sumN_le (fun i _ => by cases g i <;> simp [b1])
    have h3 : sumN h (fun i => b1 (g i && cellF xs i j)) ≤ t := by
      rw [← hcount]
      exact sumN_le (fun i _ => by cases g i <;> cases cellF xs i j <;> simp [b1])
    omega
  have e7 : (((List.range h).filter g).map (fun i => rs[i]?.getD 0)).sum = tSum rs t := by
    have hnd := ordL_nodup rs
    have key : ∀ k, k ≤ (ordL rs).length → (((ordL rs).take k).map (fun x => if plc (ordL rs) x < t then keyL rs x else 0)).sum = (((ordL rs).take (min k t)).map (keyL rs)).sum := by
      intro k
      induction k with
      | zero => intro _; simp
      | succ k ih =>
        intro hk
        have hk' : k < (ordL rs).length := by omega
        rw [List.take_succ_eq_append_getElem hk', List.map_append, List.sum_append, ih (by omega)]
        simp only [List.map_cons, List.map_nil, List.sum_cons, List.sum_nil]
        rw [plc_at hnd (List.getElem?_eq_getElem hk')]
        by_cases hlt : k < t
        · rw [if_pos hlt, Nat.min_eq_left (by omega), Nat.min_eq_left (by omega), List.take_succ_eq_append_getElem hk', List.map_append, List.sum_append]
          simp
        · rw [if_neg hlt, Nat.min_eq_right (by omega), Nat.min_eq_right (by omega)]
          simp
    have k1 := key (ordL rs).length (Nat.le_refl _)
    rw [List.take_length, hol, Nat.min_eq_right ht] at k1
    have k2 : ((ordL rs).map (fun x => if plc (ordL rs) x < t then keyL rs x else 0)).sum = ((iotaL h).map (fun x => if plc (ordL rs) x < t then keyL rs x else 0)).sum := perm_sum (hperm.map _)
    rw [sel_map, tSum, ← ord_dsort, ← List.map_take, ← k1, k2, iotaL, List.map_map]
    congr 1
    refine List.map_congr_left (fun i _ => ?_)
    simp [hg, keyL]
  rw [exc]
  omega
theorem fM_ge {r c : List Int} {v : Int} (h0 : v ≤ r.sum) : ∀ {k : Nat}, (∀ s, s < k → v ≤ r.sum - exc r c s) → v ≤ fM r c k
  | 0, _ => h0
  | k + 1, h => by
    have := fM_ge (k := k) h0 (fun s hs => h s (by omega))
    have := h k (by omega)
    simp only [fM]
    omega
/-- the greatest number is reached -/
theorem fill_most {h m : Nat} {rs ys xs : List Int} (hr : rs.length = h) (hy : ys.length = m) (h0 : ∀ y ∈ ys, 0 ≤ y) (hf : FitX h m rs ys xs) (hn : nextX h m rs ys xs = none) : ((manyX h xs : Nat) : Int) = fM rs ys (h + 1) := by
  obtain ⟨R, hR, h1⟩ := fill_cut hr hy hf hn
  have h2 := fM_le rs ys (k := h + 1) (s := R) (by omega)
  have h3 : ((manyX h xs : Nat) : Int) ≤ fM rs ys (h + 1) := by
    refine fM_ge ?_ (fun s hs => fill_weak hr hy hf (by omega))
    have := fill_weak hr hy hf (t := 0) (by omega)
    rw [exc_zero rs h0] at this
    omega
  omega
end Go.Proofs.YtkcdoacojiilaaaGreat
