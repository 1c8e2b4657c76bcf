
/- Plain mathematics: the cells along a path are changed: one more is set; when no path is left, as many are set as there can be. -/
import Derived.Test.YtkcdoacojiilaaaGreatMathFi
namespace Go.Proofs.YtkcdoacojiilaaaGreat

theorem b1_pos {p : Prop} [Decidable p] (h : p) : b1 (decide p) = 1 := by rw [decide_eq_true h]; rfl
theorem b1_neg {p : Prop} [Decidable p] (h : ¬ p) : b1 (decide p) = 0 := by rw [decide_eq_false h]; rfl
def popI (xs : List Int) (i : Nat) : Nat := pop (xs[i]?.getD 0).toNat
def flipX (xs : List Int) (i j : Nat) : List Int := xs.set i (((xs[i]?.getD 0).toNat ^^^ 2 ^ j : Nat) : Int)
theorem flipX_len (xs : List Int) (i j : Nat) : (flipX xs i j).length = xs.length := by simp [flipX]
theorem flipX_cell {xs : List Int} {i j : Nat} (hi : i < xs.length) (i' j' : Nat) : cellF (flipX xs i j) i' j' = if i' = i ∧ j' = j then !cellF xs i j else cellF xs i' j' := by
  by_cases e : i' = i
  · subst e
    have h1 : (flipX xs i' j)[i']?.getD 0 = (((xs[i']?.getD 0).toNat ^^^ 2 ^ j : Nat) : Int) := by rw [flipX, List.getElem?_set_self hi]; rfl
    simp only [cellF, h1, Int.toNat_natCast, Nat.testBit_xor, Nat.testBit_two_pow, true_and]
    by_cases e2 : j' = j
    · subst e2; simp
    · have : ¬ j = j' := fun h => e2 h.symm
      simp [e2, this]
  · have h1 : (flipX xs i j)[i']?.getD 0 = xs[i']?.getD 0 := by rw [flipX, List.getElem?_set_ne (Ne.symm e)]
    simp only [cellF, h1, e, false_and, if_false]
theorem flipX_ok {m : Nat} {xs : List Int} {i j : Nat} (h : okB (m : Int) xs = true) (hi : i < xs.length) (hj : j < m) : okB (m : Int) (flipX xs i j) = true := by
  have hb := okB_bd h
  rw [okB_eq (by rw [flipX_len]; exact hb)]
  refine allIn_of (fun k hk => ?_)
  rw [flipX_len] at hk
  have hp : ((2 ^ m : Nat) : Int) = (2 : Int) ^ m := by simp
  rw [Int.toNat_natCast]
  by_cases e : k = i
  · subst e
    obtain ⟨r, h1, h2⟩ := okB_cell h hk
    rw [flipX, List.getElem?_set_self hk, h1, Int.toNat_natCast]
    have : r ^^^ 2 ^ j < 2 ^ m := Nat.xor_lt_two_pow h2 (Nat.pow_lt_pow_right (by omega) hj)
    simp only [Option.getD_some]
    omega
  · obtain ⟨r, h1, h2⟩ := okB_cell h hk
    rw [flipX, List.getElem?_set_ne (Ne.symm e), h1]
    omega
theorem popI_sum {m : Nat} {xs : List Int} (h : okB (m : Int) xs = true) {i : Nat} (hi : i < xs.length) : popI xs i = sumN m (fun k => b1 (cellF xs i k)) := by
  obtain ⟨r, h1, h2⟩ := okB_cell h hi
  have hb := okB_bd h
  rw [popI, h1, Int.toNat_natCast, pop_sumN (by omega) h2]
  exact sumN_congr (fun k _ => by simp [cellF, h1])
theorem ccnt_sum (xs : List Int) (j : Nat) : ccnt xs j = sumN xs.length (fun i => b1 (cellF xs i j)) := by rw [ccnt, countP_sum]; rfl
theorem flipX_pop {m : Nat} {xs : List Int} {i j : Nat} (h : okB (m : Int) xs = true) (hi : i < xs.length) (hj : j < m) {i' : Nat} (hi' : i' < xs.length) :
    popI (flipX xs i j) i' + (if i' = i then b1 (cellF xs i j) else 0) = popI xs i' + (if i' = i then b1 (!cellF xs i j) else 0) := by
  rw [popI_sum h hi', popI_sum (flipX_ok h hi hj) (by rw [flipX_len]; exact hi')]
  by_cases e : i' = i
  · subst e
    rw [if_pos rfl, if_pos rfl]
    have := sumN_one (n := m) (F := fun k => b1 (cellF (flipX xs i' j) i' k)) (G := fun k => b1 (cellF xs i' k)) hj (fun k _ hk => by rw [flipX_cell hi]; simp [hk])
    have e2 : cellF (flipX xs i' j) i' j = !cellF xs i' j := by rw [flipX_cell hi]; simp
    simp only [e2] at this
    omega
  · rw [if_neg e, if_neg e]
    congr 1
    exact sumN_congr (fun k _ => by rw [flipX_cell hi]; simp [e])
theorem flipX_col {xs : List Int} {i j : Nat} (hi : i < xs.length) (j' : Nat) : ccnt (flipX xs i j) j' + (if j' = j then b1 (cellF xs i j) else 0) = ccnt xs j' + (if j' = j then b1 (!cellF xs i j) else 0) := by
  rw [ccnt_sum, ccnt_sum, flipX_len]
  by_cases e : j' = j
  · subst e
    rw [if_pos rfl, if_pos rfl]
    have := sumN_one (n := xs.length) (F := fun k => b1 (cellF (flipX xs i j') k j')) (G := fun k => b1 (cellF xs k j')) hi (fun k _ hk => by rw [flipX_cell hi]; simp [hk])
    have e2 : cellF (flipX xs i j') i j' = !cellF xs i j' := by rw [flipX_cell hi]; simp
    simp only [e2] at this
    omega
  · rw [if_neg e, if_neg e]
    congr 1
    exact sumN_congr (fun k _ => by rw [flipX_cell hi]; simp [e])
/-- the cells over which a place was reached are changed -/
def flipB (h : Nat) (par : List Int) : Nat → List Int → Nat → List Int
  | 0, xs, _ => xs
  | f + 1, xs, v => if (par[v]?.getD 0).toNat = v then xs else flipB h par f (flipX xs (min v (par[v]?.getD 0).toNat) (max v (par[v]?.getD 0).toNat - h)) (par[v]?.getD 0).toNat
theorem flip_path {h m : Nat} {xs rs ys par : List Int} {wk : List Nat} (b : Bfs h (h + m) xs rs ys par wk) :
    ∀ (k v : Nat), wk[k]? = some v → ∀ (Y : List Int) (f : Nat), okB (m : Int) Y = true → Y.length = h → (∀ i j, i ∈ wk.take (k + 1) → h + j ∈ wk.take (k + 1) → cellF Y i j = cellF xs i j) → k < f →
      okB (m : Int) (flipB h par f Y v) = true ∧ (flipB h par f Y v).length = h ∧ ∃ r, r < h ∧ lackR xs rs r = true ∧ (∀ i, i < h → popI (flipB h par f Y v) i + b1 (decide (i = v)) = popI Y i + b1 (decide (i = r))) ∧
        ∀ j, j < m → ccnt (flipB h par f Y v) j = ccnt Y j + b1 (decide (h + j = v)) := by
  intro k
  induction k using Nat.strongRecOn with
  | ind k ih =>
    intro v hv Y f hY hYl hag hf
    obtain ⟨f, rfl⟩ : ∃ g, f = g + 1 := ⟨f - 1, by omega⟩
    have hvn := b.lt v (List.mem_of_getElem? hv)
    rcases b.pa k v hv with ⟨e1, e2, e3⟩ | ⟨k', u, hk', hu, e1, harr⟩
    · rw [flipB, e1, Int.toNat_natCast, if_pos rfl]
      refine ⟨hY, hYl, v, e2, e3, fun i _ => rfl, fun j _ => ?_⟩
      have : ¬ h + j = v := by omega
      simp [this, b1]
    · have hkl : k < wk.length := (List.getElem?_eq_some_iff.1 hv).1
      have hk'l : k' < wk.length := by omega
      have hne : u ≠ v := by
        rintro rfl
        have := (List.getElem?_inj hkl b.nd).1 (hv.trans hu.symm)
        omega
      have hun := b.lt u (List.mem_of_getElem? hu)
      have mv : v ∈ wk.take (k + 1) := by rw [List.mem_take_iff_getElem]; exact ⟨k, by omega, (List.getElem?_eq_some_iff.1 hv).2⟩
      have mu : u ∈ wk.take (k + 1) := by rw [List.mem_take_iff_getElem]; exact ⟨k', by omega, (List.getElem?_eq_some_iff.1 hu).2⟩
      have nv : v ∉ wk.take (k' + 1) := by
        intro hm
        rw [List.mem_take_iff_getElem] at hm
        obtain ⟨q, hq, e⟩ := hm
        have := (List.getElem?_inj hkl b.nd).1 (hv.trans (by rw [List.getElem?_eq_getElem (by omega), e] : wk[q]? = some v).symm)
        omega
      have hsub : ∀ z, z ∈ wk.take (k' + 1) → z ∈ wk.take (k + 1) := fun z hz => by
        rw [List.mem_take_iff_getElem] at hz ⊢
        obtain ⟨q, hq, e⟩ := hz
        exact ⟨q, by omega, e⟩
      rw [flipB, e1, Int.toNat_natCast, if_neg hne]
      simp only [arrF] at harr
      split at harr
      · rename_i hc
        have hcell : cellF Y u (v - h) = false := by
          rw [hag u (v - h) mu (by rw [show h + (v - h) = v by omega]; exact mv)]
          simpa using harr
        have hmn : min v u = u := by omega
        have hmx : max v u = v := by omega
        rw [hmn, hmx]
        have huY : u < Y.length := by omega
        have hvm : v - h < m := by omega
        obtain ⟨g1, g2, r, hr, hlr, g3, g4⟩ := ih k' hk' u hu (flipX Y u (v - h)) f (flipX_ok hY huY hvm) (by rw [flipX_len]; exact hYl) (fun i j hi hj => by
          rw [flipX_cell huY]
          split
          · rename_i hc2
            exact absurd (by rw [show h + j = v by omega] at hj; exact hj) nv
          · exact hag i j (hsub _ hi) (hsub _ hj)) (by omega)
        have zF : b1 false = 0 := rfl
        have zT : b1 (!false) = 1 := rfl
        refine ⟨g1, g2, r, hr, hlr, fun i hi => ?_, fun j hj => ?_⟩
        · have h1 := g3 i hi
          have h2 := flipX_pop hY huY hvm (i' := i) (by omega)
          rw [hcell, zF, zT] at h2
          rw [b1_neg (show ¬ i = v by omega)]
          by_cases ei : i = u
          · rw [b1_pos ei] at h1
            rw [if_pos ei, if_pos ei] at h2
            omega
          · rw [b1_neg ei] at h1
            rw [if_neg ei, if_neg ei] at h2
            omega
        · have h1 := g4 j hj
          have h2 := flipX_col (xs := Y) (j := v - h) huY j
          rw [hcell, zF, zT] at h2
          rw [b1_neg (show ¬ h + j = u by omega)] at h1
          by_cases ej : h + j = v
          · rw [b1_pos ej]
            rw [if_pos (show j = v - h by omega), if_pos (show j = v - h by omega)] at h2
            omega
          · rw [b1_neg ej]
            rw [if_neg (show ¬ j = v - h by omega), if_neg (show ¬ j = v - h by omega)] at h2
            omega
      · split at harr
        · rename_i hc0 hc
          have hcell : cellF Y v (u - h) = true := by
            rw [hag v (u - h) mv (by rw [show h + (u - h) = u by omega]; exact mu)]
            exact harr
          have hmn : min v u = v := by omega
          have hmx : max v u = u := by omega
          rw [hmn, hmx]
          have hvY : v < Y.length := by omega
          have hum : u - h < m := by omega
          obtain ⟨g1, g2, r, hr, hlr, g3, g4⟩ := ih k' hk' u hu (flipX Y v (u - h)) f (flipX_ok hY hvY hum) (by rw [flipX_len]; exact hYl) (fun i j hi hj => by
            rw [flipX_cell hvY]
            split
            · rename_i hc2
              rw [hc2.1] at hi
              exact absurd hi nv
            · exact hag i j (hsub _ hi) (hsub _ hj)) (by omega)
          have zF : b1 true = 1 := rfl
          have zT : b1 (!true) = 0 := rfl
          refine ⟨g1, g2, r, hr, hlr, fun i hi => ?_, fun j hj => ?_⟩
          · have h1 := g3 i hi
            have h2 := flipX_pop hY hvY hum (i' := i) (by omega)
            rw [hcell, zF, zT] at h2
            rw [b1_neg (show ¬ i = u by omega)] at h1
            by_cases ei : i = v
            · rw [b1_pos ei]
              rw [if_pos ei, if_pos ei] at h2
              omega
            · rw [b1_neg ei]
              rw [if_neg ei, if_neg ei] at h2
              omega
          · have h1 := g4 j hj
            have h2 := flipX_col (xs := Y) (j := u - h) hvY j
            rw [hcell, zF, zT] at h2
            rw [b1_neg (show ¬ h + j = v by omega)]
            by_cases ej : h + j = u
            · rw [b1_pos ej] at h1
              rw [if_pos (show j = u - h by omega), if_pos (show j = u - h by omega)] at h2
              omega
            · rw [b1_neg ej] at h1
              rw [if_neg (show ¬ j = u - h by omega), if_neg (show ¬ j = u - h by omega)] at h2
              omega
        · cases harr
end Go.Proofs.YtkcdoacojiilaaaGreat
