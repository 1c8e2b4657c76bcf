
/- Plain mathematics: the switches of an image in the order of the search. -/
import Derived.Test.YtjogfeichnkffaaMathN
namespace Go.Proofs.Ytjogfeichnkffaa

/-- the switches of the image ahead of (a, b, c, d) -/
def swS (h m : Nat) (xs : List Int) (a b c d : Nat) : List Sw := (swP h m a b c d).filter (swOk xs)
theorem swS_0 (h m : Nat) (xs : List Int) : swS h m xs 0 1 0 1 = [] := by simp [swS, swP_0]
theorem swS_d {h m a b c d : Nat} {xs : List Int} (hd : c + 1 ≤ d) : swS h m xs a b c (d + 1) = if swOk xs ⟨a, b, c, d⟩ then swS h m xs a b c d ++ [⟨a, b, c, d⟩] else swS h m xs a b c d := by
  simp only [swS, swP_d hd, List.filter_append, List.filter_cons, List.filter_nil]
  split <;> simp
theorem swS_c {h m a b c : Nat} {xs : List Int} : swS h m xs a b (c + 1) (c + 1 + 1) = swS h m xs a b c m := by simp only [swS, swP_c]
theorem swS_b {h m a b : Nat} {xs : List Int} (hb : a + 1 ≤ b) : swS h m xs a (b + 1) 0 1 = swS h m xs a b m (m + 1) := by simp only [swS, swP_b hb]
theorem swS_a {h m a : Nat} {xs : List Int} : swS h m xs (a + 1) (a + 1 + 1) 0 1 = swS h m xs a h 0 1 := by simp only [swS, swP_a]
theorem swS_end (m : Nat) (xs : List Int) : swS xs.length m xs xs.length (xs.length + 1) 0 1 = swList m xs := by simp only [swS, swP_end, swList]
theorem swS_len {h m a b c d : Nat} (xs : List Int) (hh : h ≤ 6) (hm : m ≤ 6) (ha : a ≤ h) (hb : b ≤ h) (hc : c ≤ m) (hd : d ≤ m) : (swS h m xs a b c d).length < 1600 :=
  Nat.lt_of_le_of_lt (List.length_filter_le _ _) (swP_len hh hm ha hb hc hd)
theorem swP_b0 {h m a b : Nat} : swP h m a (b + 1) 0 1 = swP h m a (b + 1) 0 1 := rfl
/-- the whole row of columns done: from (c = m) on -/
theorem swP_m {h m a b d : Nat} (hd : d ≤ m + 1) : swP h m a b m d = swP h m a b m (m + 1) := by
  have e : ∀ d, d ≤ m + 1 → swL a b m (m + 1) d = [] := fun d hd => by simp [swL, Nat.sub_eq_zero_of_le hd]
  simp only [swP, e d hd, e (m + 1) (Nat.le_refl _)]
theorem swS_m {h m a b d : Nat} {xs : List Int} (hd : d ≤ m + 1) : swS h m xs a b m d = swS h m xs a b m (m + 1) := by simp only [swS, swP_m hd]
/-- a switch of an image -/
def VSw (m : Nat) (xs : List Int) : Type := { s : Sw // s ∈ swList m xs }
theorem swDo_eq_nbrs {m : Nat} {xs : List Int} (pre : List (VSw m xs)) : pre.map (·.1) = swList m xs → pre.map (fun s => swDo m xs s.1) = nbrs m xs := by
  intro h
  have e := congrArg (List.map (swDo m xs)) h
  rw [List.map_map] at e
  exact e
theorem swList_len {m : Nat} {xs : List Int} (h : okB (m : Int) xs = true) : (swList m xs).length < 1600 := by
  have hb := okB_bd h
  refine Nat.lt_of_le_of_lt (List.length_filter_le _ _) ?_
  rw [← swP_end]
  have := swP_len (h := xs.length) (m := m) (a := xs.length) (b := 0) (c := 0) (d := 0) (by omega) (by omega) (Nat.le_refl _) (by omega) (by omega) (by omega)
  simpa [swP, swB, swC, swL] using this
end Go.Proofs.Ytjogfeichnkffaa
