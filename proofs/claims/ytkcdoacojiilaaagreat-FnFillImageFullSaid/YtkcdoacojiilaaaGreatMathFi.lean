
/- Plain mathematics: an image is filled, cell by cell, along paths that are searched from the rows that lack cells. -/
import Derived.Test.YtkcdoacojiilaaaGreatMathUq
import Derived.Test.YtkcdoacojiilaaaGreatMathBd
namespace Go.Proofs.YtkcdoacojiilaaaGreat

/-- a place leads to another one: rows to columns over cells that are not set, columns to rows over set ones -/
def arrF (h : Nat) (xs : List Int) (p t : Nat) : Bool := if p < h ∧ h ≤ t then !cellF xs p (t - h) else if h ≤ p ∧ t < h then cellF xs t (p - h) else false
/-- a column that lacks cells -/
def lackC (h : Nat) (xs ys : List Int) (t : Nat) : Bool := decide (h ≤ t) && decide (((ccnt xs (t - h) : Nat) : Int) < ys[t - h]?.getD 0)
def skipB (h : Nat) (xs : List Int) (par : List Int) (p t : Nat) : Bool := decide (0 ≤ par[t]?.getD 0) || !arrF h xs p t
/-- the places from n - k on are looked at, from place p -/
def scan (h n : Nat) (xs ys : List Int) (p : Nat) : Nat → List Int → List Nat → Option Nat × List Int × List Nat
  | 0, par, wk => (none, par, wk)
  | k + 1, par, wk => if skipB h xs par p (n - (k + 1)) then scan h n xs ys p k par wk
    else if lackC h xs ys (n - (k + 1)) then (some (n - (k + 1)), par.set (n - (k + 1)) (p : Int), wk ++ [n - (k + 1)])
    else scan h n xs ys p k (par.set (n - (k + 1)) (p : Int)) (wk ++ [n - (k + 1)])
/-- the places that wait are looked from, one after the other -/
def srch (h n : Nat) (xs ys : List Int) : Nat → Nat → List Int → List Nat → Option Nat × List Int
  | 0, _, par, _ => (none, par)
  | f + 1, at_, par, wk => match wk[at_]? with
    | none => (none, par)
    | some p => match scan h n xs ys p n par wk with
      | (some t, par', _) => (some t, par')
      | (none, par', wk') => srch h n xs ys f (at_ + 1) par' wk'
/-- a row that lacks cells -/
def lackR (xs rs : List Int) (i : Nat) : Bool := decide (((pop (xs[i]?.getD 0).toNat : Nat) : Int) < rs[i]?.getD 0)
/-- where the search begins, the first k rows looked at -/
def parK (n : Nat) (xs rs : List Int) (k : Nat) : List Int := (List.range n).map (fun i : Nat => if i < k ∧ lackR xs rs i = true then (i : Int) else -1)
def wkK (xs rs : List Int) (k : Nat) : List Nat := (List.range k).filter (lackR xs rs)
def srchAll (h n : Nat) (xs rs ys : List Int) : Option Nat × List Int := srch h n xs ys (n + 1) 0 (parK n xs rs h) (wkK xs rs h)

/-- what is known of the search -/
structure Bfs (h n : Nat) (xs rs ys : List Int) (par : List Int) (wk : List Nat) : Prop where
  pl : par.length = n
  nd : wk.Nodup
  lt : ∀ v ∈ wk, v < n
  iff : ∀ v : Nat, v < n → (0 ≤ par[v]?.getD 0 ↔ v ∈ wk)
  pa : ∀ k v : Nat, wk[k]? = some v → (par[v]?.getD 0 = (v : Int) ∧ v < h ∧ lackR xs rs v = true) ∨ ∃ k' u : Nat, k' < k ∧ wk[k']? = some u ∧ par[v]?.getD 0 = (u : Int) ∧ arrF h xs u v = true
  al : ∀ v : Nat, v < h → lackR xs rs v = true → v ∈ wk
theorem wk_len {h n : Nat} {xs rs ys par : List Int} {wk : List Nat} (b : Bfs h n xs rs ys par wk) : wk.length ≤ n := by
  have := nodup_sub (l' := List.range n) b.nd (fun v hv => List.mem_range.2 (b.lt v hv))
  rwa [List.length_range] at this
theorem bfs_start {h n : Nat} (xs rs ys : List Int) (hn : h ≤ n) : Bfs h n xs rs ys (parK n xs rs h) (wkK xs rs h) where
  pl := by simp [parK]
  nd := List.nodup_range.filter _
  lt := fun v hv => by have := List.mem_range.1 (List.mem_filter.1 hv).1; omega
  iff := fun v hv => by
    simp only [parK, List.getElem?_map, List.getElem?_range hv, Option.map_some, Option.getD_some, wkK, List.mem_filter, List.mem_range]
    by_cases hc : v < h ∧ lackR xs rs v = true
    · rw [if_pos hc]; simp only [hc, and_self, iff_true]; omega
    · rw [if_neg hc]; simp only [hc, iff_false]; omega
  pa := fun k v hk => by
    have hm := List.mem_filter.1 (List.mem_of_getElem? hk)
    have hv := List.mem_range.1 hm.1
    refine .inl ⟨?_, hv, hm.2⟩
    simp [parK, List.getElem?_map, List.getElem?_range (show v < n by omega), hv, hm.2]
  al := fun v hv hl => List.mem_filter.2 ⟨List.mem_range.2 hv, hl⟩
theorem bfs_add {h n : Nat} {xs rs ys par : List Int} {wk : List Nat} (b : Bfs h n xs rs ys par wk) {p t : Nat} (ht : t < n) (hp : p ∈ wk) (hs : skipB h xs par p t = false) : Bfs h n xs rs ys (par.set t (p : Int)) (wk ++ [t]) := by
  simp only [skipB, Bool.or_eq_false_iff, decide_eq_false_iff_not, Bool.not_eq_false'] at hs
  have htw : t ∉ wk := fun hm => hs.1 ((b.iff t ht).2 hm)
  have hget : ∀ v, v ≠ t → (par.set t (p : Int))[v]?.getD 0 = par[v]?.getD 0 := fun v hv => by rw [List.getElem?_set_ne (Ne.symm hv)]
  have hgt : (par.set t (p : Int))[t]?.getD 0 = (p : Int) := by rw [List.getElem?_set_self (by rw [b.pl]; exact ht)]; rfl
  refine ⟨by rw [List.length_set]; exact b.pl, ?_, ?_, ?_, ?_, ?_⟩
  · rw [List.nodup_append]
    exact ⟨b.nd, by simp, fun a ha c hc => by rw [List.mem_singleton] at hc; rintro rfl; rw [hc] at ha; exact htw ha⟩
  · intro v hv
    rcases List.mem_append.1 hv with h1 | h1
    · exact b.lt v h1
    · rw [List.mem_singleton] at h1; omega
  · intro v hv
    by_cases e : v = t
    · subst e
      rw [hgt]
      simp
    · rw [hget v e, b.iff v hv]
      simp [e]
  · intro k v hk
    rcases Nat.lt_or_ge k wk.length with hlt | hge
    · rw [List.getElem?_append_left hlt] at hk
      have hvt : v ≠ t := by rintro rfl; exact htw (List.mem_of_getElem? hk)
      rw [hget v hvt]
      rcases b.pa k v hk with h1 | ⟨k', u, h1, h2, h3⟩
      · exact .inl h1
      · exact .inr ⟨k', u, h1, by rw [List.getElem?_append_left (by omega)]; exact h2, h3⟩
    · rw [List.getElem?_append_right hge] at hk
      have hk0 : k - wk.length = 0 := by
        rcases Nat.eq_zero_or_pos (k - wk.length) with h1 | h1
        · exact h1
        · rw [List.getElem?_eq_none (by simp; omega)] at hk; cases hk
      rw [hk0] at hk
      simp at hk
      subst hk
      obtain ⟨k', hk', e⟩ := List.mem_iff_getElem.1 hp
      exact .inr ⟨k', p, by omega, by rw [List.getElem?_append_left hk', List.getElem?_eq_getElem hk', e], hgt, hs.2⟩
  · intro v hv hl
    exact List.mem_append_left _ (b.al v hv hl)
/-- a scan that finds nothing: all places that p leads to wait, none of them lacks cells -/
theorem scan_none {h n : Nat} {xs rs ys : List Int} {p : Nat} : ∀ (k : Nat) (par : List Int) (wk : List Nat) (par' : List Int) (wk' : List Nat), k ≤ n → Bfs h n xs rs ys par wk → p ∈ wk → scan h n xs ys p k par wk = (none, par', wk') →
    Bfs h n xs rs ys par' wk' ∧ (∃ t, wk' = wk ++ t) ∧ (∀ v, n - k ≤ v → v < n → arrF h xs p v = true → v ∈ wk') ∧ ∀ v ∈ wk', v ∉ wk → lackC h xs ys v = false
  | 0, par, wk, par', wk', _, b, _, e => by
    simp only [scan, Prod.mk.injEq, true_and] at e
    obtain ⟨rfl, rfl⟩ := e
    exact ⟨b, ⟨[], by simp⟩, fun v h1 h2 => by omega, fun v h1 h2 => absurd h1 h2⟩
  | k + 1, par, wk, par', wk', hk, b, hp, e => by
    rw [scan] at e
    have ht : n - (k + 1) < n := by omega
    split at e
    · rename_i hs
      obtain ⟨g1, g2, g3, g4⟩ := scan_none k par wk par' wk' (by omega) b hp e
      refine ⟨g1, g2, fun v h1 h2 h3 => ?_, g4⟩
      by_cases ev : v = n - (k + 1)
      · rw [← ev] at hs
        simp only [skipB, h3, Bool.not_true, Bool.or_false, decide_eq_true_eq] at hs
        have hm := (b.iff v h2).1 hs
        obtain ⟨t, rfl⟩ := g2
        exact List.mem_append_left _ hm
      · exact g3 v (by omega) h2 h3
    · rename_i hs
      split at e
      · simp at e
      · rename_i hl
        have hs' : skipB h xs par p (n - (k + 1)) = false := by simpa using hs
        have b2 := bfs_add b ht hp hs'
        obtain ⟨g1, ⟨t, rfl⟩, g3, g4⟩ := scan_none k _ _ par' wk' (by omega) b2 (List.mem_append_left _ hp) e
        refine ⟨g1, ⟨_, (List.append_assoc _ _ _)⟩, fun v h1 h2 h3 => ?_, fun v h1 h2 => ?_⟩
        · by_cases ev : v = n - (k + 1)
          · rw [ev]
            exact List.mem_append_left _ (List.mem_append_right _ (List.mem_singleton.2 rfl))
          · exact g3 v (by omega) h2 h3
        · by_cases ev : v = n - (k + 1)
          · rw [ev]
            simpa using hl
          · exact g4 v h1 (fun hm => by
              rcases List.mem_append.1 hm with h3 | h3
              · exact h2 h3
              · exact ev (List.mem_singleton.1 h3))
theorem scan_some {h n : Nat} {xs rs ys : List Int} {p t : Nat} : ∀ (k : Nat) (par : List Int) (wk : List Nat) (par' : List Int) (wk' : List Nat), k ≤ n → Bfs h n xs rs ys par wk → p ∈ wk → scan h n xs ys p k par wk = (some t, par', wk') →
    Bfs h n xs rs ys par' wk' ∧ t ∈ wk' ∧ t < n ∧ lackC h xs ys t = true
  | 0, par, wk, par', wk', _, b, _, e => by simp [scan] at e
  | k + 1, par, wk, par', wk', hk, b, hp, e => by
    rw [scan] at e
    have ht : n - (k + 1) < n := by omega
    split at e
    · exact scan_some k par wk par' wk' (by omega) b hp e
    · rename_i hs
      have hs' : skipB h xs par p (n - (k + 1)) = false := by simpa using hs
      have b2 := bfs_add b ht hp hs'
      split at e
      · rename_i hl
        simp only [Prod.mk.injEq, Option.some.injEq] at e
        obtain ⟨rfl, rfl, rfl⟩ := e
        exact ⟨b2, List.mem_append_right _ (List.mem_singleton.2 rfl), ht, hl⟩
      · exact scan_some k _ _ par' wk' (by omega) b2 (List.mem_append_left _ hp) e
/-- the search finds a column that lacks cells, or all places that can be reached, no column of which lacks cells -/
theorem srch_ok {h n : Nat} {xs rs ys : List Int} : ∀ (f a : Nat) (par : List Int) (wk : List Nat), Bfs h n xs rs ys par wk → n < f + a → (∀ k v u, k < a → wk[k]? = some v → u < n → arrF h xs v u = true → u ∈ wk) → (∀ v ∈ wk, lackC h xs ys v = false) →
    (∃ t par' wk', srch h n xs ys f a par wk = (some t, par') ∧ Bfs h n xs rs ys par' wk' ∧ t ∈ wk' ∧ t < n ∧ lackC h xs ys t = true) ∨
    (∃ par' wk', srch h n xs ys f a par wk = (none, par') ∧ Bfs h n xs rs ys par' wk' ∧ (∀ v ∈ wk', ∀ u, u < n → arrF h xs v u = true → u ∈ wk') ∧ ∀ v ∈ wk', lackC h xs ys v = false)
  | 0, a, par, wk, b, hf, hc, hl => by
    have := wk_len b
    refine .inr ⟨par, wk, rfl, b, fun v hv u hu ha => ?_, hl⟩
    obtain ⟨k, hk, e⟩ := List.mem_iff_getElem.1 hv
    exact hc k v u (by omega) (by rw [List.getElem?_eq_getElem hk, e]) hu ha
  | f + 1, a, par, wk, b, hf, hc, hl => by
    rw [srch]
    cases hw : wk[a]? with
    | none =>
      have ha : wk.length ≤ a := by simpa using hw
      refine .inr ⟨par, wk, rfl, b, fun v hv u hu h2 => ?_, hl⟩
      obtain ⟨k, hk, e⟩ := List.mem_iff_getElem.1 hv
      exact hc k v u (by omega) (by rw [List.getElem?_eq_getElem hk, e]) hu h2
    | some p =>
      have hp := List.mem_of_getElem? hw
      dsimp only
      rcases hs : scan h n xs ys p n par wk with ⟨o, par', wk'⟩
      cases o with
      | some t =>
        obtain ⟨g1, g2, g3, g4⟩ := scan_some n par wk par' wk' (Nat.le_refl _) b hp hs
        exact .inl ⟨t, par', wk', rfl, g1, g2, g3, g4⟩
      | none =>
        obtain ⟨g1, ⟨t, rfl⟩, g3, g4⟩ := scan_none n par wk par' wk' (Nat.le_refl _) b hp hs
        dsimp only
        refine srch_ok f (a + 1) par' (wk ++ t) g1 (by omega) (fun k v u hk hv hu ha => ?_) (fun v hv => ?_)
        · have hal : a < wk.length := (List.getElem?_eq_some_iff.1 hw).1
          rw [List.getElem?_append_left (by omega)] at hv
          by_cases e : k = a
          · subst e
            rw [hw] at hv
            injection hv with hv
            subst hv
            exact g3 u (by omega) hu ha
          · exact List.mem_append_left _ (hc k v u (by omega) hv hu ha)
        · by_cases hm : v ∈ wk
          · exact hl v hm
          · exact g4 v hv hm
end Go.Proofs.YtkcdoacojiilaaaGreat
