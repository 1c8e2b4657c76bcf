
/- Plain mathematics: all images with given sums, row by row in ascending order. -/
import Derived.Test.YtkcdoacojiilaaaGreatKr
namespace Go.Proofs.YtkcdoacojiilaaaGreat

/-- a row has only cells that are still to come, and all those that must come -/
def fitB (row : Nat) (lf : List Int) (k : Int) : Bool := (List.range lf.length).all (fun j => if row.testBit j then decide (lf[j]?.getD 0 ≠ 0) else decide (lf[j]?.getD 0 ≠ k))
def takeL (row : Nat) (lf : List Int) : List Int := (List.range lf.length).map (fun j => lf[j]?.getD 0 - (b1 (row.testBit j) : Nat))
def giveL (row : Nat) (lf : List Int) : List Int := (List.range lf.length).map (fun j => lf[j]?.getD 0 + (b1 (row.testBit j) : Nat))
theorem takeL_len (row : Nat) (lf : List Int) : (takeL row lf).length = lf.length := by simp [takeL]
theorem giveL_len (row : Nat) (lf : List Int) : (giveL row lf).length = lf.length := by simp [giveL]
theorem takeL_get {row : Nat} {lf : List Int} {j : Nat} (hj : j < lf.length) : (takeL row lf)[j]?.getD 0 = lf[j]?.getD 0 - (b1 (row.testBit j) : Nat) := by
  simp [takeL, List.getElem?_map, List.getElem?_range hj]
theorem give_take (row : Nat) (lf : List Int) : giveL row (takeL row lf) = lf := by
  apply List.ext_getElem
  · simp [giveL, takeL]
  · intro j h1 h2
    have h3 := takeL_get (row := row) h2
    simp only [giveL, List.getElem_map, List.getElem_range, h3]
    rw [List.getElem?_eq_getElem h2, Option.getD_some]
    omega
/-- the images with these row sums and these column sums, in ascending order -/
def imgL : List Int → List Int → List (List Int)
  | [], lf => if 0 < lf.sum then [] else [[]]
  | r :: rs, lf => (List.range (2 ^ lf.length)).flatMap (fun row => if ((pop row : Nat) : Int) = r ∧ fitB row lf ((rs.length + 1 : Nat) : Int) = true then (imgL rs (takeL row lf)).map (fun x => (row : Int) :: x) else [])
/-- those whose first row is less than k -/
def imgK (r : Int) (rs lf : List Int) (k : Nat) : List (List Int) := (List.range k).flatMap (fun row => if ((pop row : Nat) : Int) = r ∧ fitB row lf ((rs.length + 1 : Nat) : Int) = true then (imgL rs (takeL row lf)).map (fun x => (row : Int) :: x) else [])
theorem imgK_zero (r : Int) (rs lf : List Int) : imgK r rs lf 0 = [] := rfl
theorem imgK_all (r : Int) (rs lf : List Int) : imgK r rs lf (2 ^ lf.length) = imgL (r :: rs) lf := rfl
theorem imgK_hit {r : Int} {rs lf : List Int} {k : Nat} (h1 : ((pop k : Nat) : Int) = r) (h2 : fitB k lf ((rs.length + 1 : Nat) : Int) = true) : imgK r rs lf (k + 1) = imgK r rs lf k ++ (imgL rs (takeL k lf)).map (fun x => (k : Int) :: x) := by
  rw [imgK, List.range_succ, List.flatMap_append]
  simp only [List.flatMap_cons, List.flatMap_nil, if_pos (And.intro h1 h2), List.append_nil]
  rfl
theorem imgK_miss {r : Int} {rs lf : List Int} {k : Nat} (h : ¬ (((pop k : Nat) : Int) = r ∧ fitB k lf ((rs.length + 1 : Nat) : Int) = true)) : imgK r rs lf (k + 1) = imgK r rs lf k := by
  rw [imgK, List.range_succ, List.flatMap_append]
  simp only [List.flatMap_cons, List.flatMap_nil, if_neg h, List.append_nil]
  rfl
theorem fitB_iff {row : Nat} {lf : List Int} {k : Int} : fitB row lf k = true ↔ ∀ j, j < lf.length → (row.testBit j = true → lf[j]?.getD 0 ≠ 0) ∧ (row.testBit j = false → lf[j]?.getD 0 ≠ k) := by
  simp only [fitB, List.all_eq_true, List.mem_range]
  constructor
  · intro h j hj
    have := h j hj
    cases hb : row.testBit j <;> rw [hb] at this <;> simp at this <;> simp [this]
  · intro h j hj
    have := h j hj
    cases hb : row.testBit j <;> rw [hb] at this <;> simp at this <;> simp [this]
theorem ccnt_cons (a : Int) (l : List Int) (j : Nat) : ccnt (a :: l) j = ccnt l j + b1 (a.toNat.testBit j) := by
  rw [ccnt, List.countP_cons, ccnt, b1]
theorem sum_zero : ∀ {l : List Int}, (∀ j, j < l.length → l[j]?.getD 0 = 0) → l.sum = 0
  | [], _ => rfl
  | a :: l, h => by
    have h0 := h 0 (by simp)
    simp at h0
    rw [List.sum_cons, h0, sum_zero (fun j hj => by have := h (j + 1) (by simp; omega); simpa using this)]
    rfl
theorem imgL_mem : ∀ (rs lf x : List Int), (∀ j, j < lf.length → 0 ≤ lf[j]?.getD 0 ∧ lf[j]?.getD 0 ≤ rs.length) →
    (x ∈ imgL rs lf ↔ x.length = rs.length ∧ (∀ i, i < rs.length → ∃ r : Nat, x[i]?.getD 0 = (r : Int) ∧ r < 2 ^ lf.length ∧ ((pop r : Nat) : Int) = rs[i]?.getD 0) ∧ ∀ j, j < lf.length → ((ccnt x j : Nat) : Int) = lf[j]?.getD 0)
  | [], lf, x, hb => by
    have h0 : lf.sum = 0 := sum_zero (fun j hj => by have := hb j hj; simp at this; omega)
    rw [imgL, h0, if_neg (by omega), List.mem_singleton]
    constructor
    · rintro rfl
      refine ⟨rfl, fun i hi => absurd hi (by simp), fun j hj => ?_⟩
      have := hb j hj
      simp [ccnt] at this ⊢
      omega
    · rintro ⟨h, _, _⟩
      exact List.length_eq_zero_iff.1 h
  | r :: rs, lf, x, hb => by
    have hb2 : ∀ row : Nat, fitB row lf ((rs.length + 1 : Nat) : Int) = true → ∀ j, j < (takeL row lf).length → 0 ≤ (takeL row lf)[j]?.getD 0 ∧ (takeL row lf)[j]?.getD 0 ≤ rs.length := by
      intro row hf j hj
      rw [takeL_len] at hj
      rw [takeL_get hj]
      have h1 := hb j hj
      have h2 := fitB_iff.1 hf j hj
      rw [List.length_cons] at h1
      cases hbit : row.testBit j with
      | true => have := h2.1 hbit; simp [b1]; omega
      | false => have := h2.2 hbit; simp [b1]; omega
    rw [imgL, List.mem_flatMap]
    constructor
    · rintro ⟨row, hrow, hx⟩
      rw [List.mem_range] at hrow
      split at hx
      case isFalse => cases hx
      rename_i hc
      obtain ⟨y, hy, rfl⟩ := List.mem_map.1 hx
      have ih := (imgL_mem rs (takeL row lf) y (hb2 row hc.2)).1 hy
      rw [takeL_len] at ih
      refine ⟨by simp [ih.1], ?_, ?_⟩
      · intro i hi
        cases i with
        | zero => exact ⟨row, by simp, hrow, by simpa using hc.1⟩
        | succ i =>
          obtain ⟨r', h1, h2, h3⟩ := ih.2.1 i (by simpa using hi)
          exact ⟨r', by simpa using h1, h2, by simpa using h3⟩
      · intro j hj
        have h1 := ih.2.2 j hj
        rw [takeL_get hj] at h1
        rw [ccnt_cons, Int.toNat_natCast]
        omega
    · rintro ⟨h1, h2, h3⟩
      cases x with
      | nil => simp at h1
      | cons a y =>
        obtain ⟨row, e1, e2, e3⟩ := h2 0 (by simp)
        simp at e1 e3
        subst e1
        have hyl : y.length = rs.length := by simpa using h1
        have hcc : ∀ j, j < lf.length → ((ccnt y j : Nat) : Int) + (b1 (row.testBit j) : Nat) = lf[j]?.getD 0 := by
          intro j hj
          have := h3 j hj
          rw [ccnt_cons, Int.toNat_natCast] at this
          omega
        have hf : fitB row lf ((rs.length + 1 : Nat) : Int) = true := by
          refine fitB_iff.2 (fun j hj => ?_)
          have h4 := hcc j hj
          have h5 := ccnt_le y j
          constructor
          · intro hb'
            rw [hb'] at h4
            simp [b1] at h4
            omega
          · intro hb'
            rw [hb'] at h4
            simp [b1] at h4
            omega
        refine ⟨row, List.mem_range.2 e2, ?_⟩
        rw [if_pos ⟨e3, hf⟩]
        refine List.mem_map.2 ⟨y, (imgL_mem rs (takeL row lf) y (hb2 row hf)).2 ⟨hyl, ?_, ?_⟩, rfl⟩
        · intro i hi
          obtain ⟨r', g1, g2, g3⟩ := h2 (i + 1) (by simp; omega)
          rw [takeL_len]
          exact ⟨r', by simpa using g1, g2, by simpa using g3⟩
        · intro j hj
          rw [takeL_len] at hj
          rw [takeL_get hj]
          have := hcc j hj
          omega
theorem imgL_nodup : ∀ (rs lf : List Int), (imgL rs lf).Nodup
  | [], lf => by
    rw [imgL]
    split <;> simp
  | r :: rs, lf => by
    rw [imgL]
    refine nodup_flatMap' (fun row _ => ?_) (range_pw (fun i j hij x hx y hy e => ?_))
    · split
      · exact map_pw ((imgL_nodup rs (takeL row lf)).imp (fun {a b} hne e => hne (List.cons.inj e).2))
      · simp
    · subst e
      split at hx
      case isFalse => cases hx
      split at hy
      case isFalse => cases hy
      obtain ⟨y1, _, e1⟩ := List.mem_map.1 hx
      obtain ⟨y2, _, e2⟩ := List.mem_map.1 hy
      rw [← e1] at e2
      have := (List.cons.inj e2).1
      omega
/-- the sums of a valid image: whoever has them is one of those listed -/
theorem imgL_sums {m : Nat} {xs : List Int} (hx : okB (m : Int) xs = true) (y : List Int) : y ∈ imgL (rsum xs) (csum m xs) ↔ y.length = xs.length ∧ okB (m : Int) y = true ∧ rsum y = rsum xs ∧ csum m y = csum m xs := by
  have hbd := okB_bd hx
  have hcl : (csum m xs).length = m := by simp [csum]
  have hrl : (rsum xs).length = xs.length := by simp [rsum]
  have hcv : ∀ {z : List Int} {j : Nat}, j < m → (csum m z)[j]?.getD 0 = ((ccnt z j : Nat) : Int) := fun {z j} hj => by simp [csum, List.getElem?_map, List.getElem?_range hj]
  have hrv : ∀ {z : List Int} {i : Nat}, i < z.length → (rsum z)[i]?.getD 0 = ((pop (z[i]?.getD 0).toNat : Nat) : Int) := fun {z i} hi => by simp [rsum, List.getElem?_map, List.getElem?_eq_getElem hi]
  rw [imgL_mem (rsum xs) (csum m xs) y (fun j hj => by
    rw [hcl] at hj
    rw [hcv hj, hrl]
    have := ccnt_le xs j
    omega), hcl, hrl]
  constructor
  · rintro ⟨h1, h2, h3⟩
    refine ⟨h1, ?_, ?_, ?_⟩
    · rw [okB_eq (by omega)]
      refine allIn_of (fun k hk => ?_)
      obtain ⟨r, e1, e2, _⟩ := h2 k (by omega)
      rw [e1, Int.toNat_natCast]
      have : ((2 ^ m : Nat) : Int) = (2 : Int) ^ m := by simp
      omega
    · apply List.ext_getElem
      · simp [rsum, h1]
      · intro i g1 g2
        have hi : i < xs.length := by simpa [rsum] using g2
        obtain ⟨r, e1, e2, e3⟩ := h2 i hi
        have e4 := hrv (z := y) (i := i) (by omega)
        rw [e1, Int.toNat_natCast, e3] at e4
        rw [List.getElem?_eq_getElem g1, List.getElem?_eq_getElem g2] at e4
        exact e4
    · apply List.ext_getElem
      · simp [csum]
      · intro j g1 g2
        have hj : j < m := by simpa [csum] using g2
        have e4 := h3 j hj
        rw [← hcv hj, List.getElem?_eq_getElem g1, List.getElem?_eq_getElem g2] at e4
        exact e4
  · rintro ⟨h1, h2, h3, h4⟩
    refine ⟨h1, fun i hi => ?_, fun j hj => ?_⟩
    · obtain ⟨r, e1, e2⟩ := okB_cell h2 (i := i) (by omega)
      refine ⟨r, e1, e2, ?_⟩
      have := hrv (z := y) (i := i) (by omega)
      rw [e1, Int.toNat_natCast, h3] at this
      exact this.symm
    · rw [← h4, hcv hj]
/-- as many as are reached by switches -/
theorem imgL_reach {m : Nat} {xs : List Int} (hx : okB (m : Int) xs = true) : (imgL (rsum xs) (csum m xs)).length = (reach m xs).length := by
  have hs : ∀ z : List Int, okB (m : Int) z = true → rSums (m : Int) z = rsum z ∧ cSums (m : Int) z = csum m z := fun z hz => ⟨by simp [rSums, hz], by simp [cSums, hz]⟩
  refine Nat.le_antisymm ?_ ?_
  · have h1 := nodup_sub (l' := (reach m xs).map (·.1)) (imgL_nodup (rsum xs) (csum m xs)) (fun y hy => by
      obtain ⟨g1, g2, g3, g4⟩ := (imgL_sums hx y).1 hy
      have hsame := same2_of hx g2 (by rw [(hs xs hx).1, (hs y g2).1, g3]) (by rw [(hs xs hx).2, (hs y g2).2, g4])
      obtain ⟨n, hp, _⟩ := way _ hx g2 g1.symm hsame.2 (Nat.le_refl _)
      obtain ⟨f, hf, e, _⟩ := reach_all hx hp
      exact List.mem_map.2 ⟨f, hf, e⟩)
    rwa [List.length_map] at h1
  · have h1 := nodup_sub (l' := imgL (rsum xs) (csum m xs)) (reach_nodup m xs) (fun y hy => by
      obtain ⟨f, hf, rfl⟩ := List.mem_map.1 hy
      have hp := reach_path hf
      have h2 := path_ok hx hp
      have h3 := path_sums hx hp
      rw [(hs _ h2.1).1, (hs xs hx).1, (hs _ h2.1).2, (hs xs hx).2] at h3
      exact (imgL_sums hx f.1).2 ⟨h2.2, h2.1, h3.1, h3.2⟩)
    rwa [List.length_map] at h1
end Go.Proofs.YtkcdoacojiilaaaGreat
