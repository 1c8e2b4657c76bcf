
/- Plain mathematics: switches and neighbors of an image. -/
import Derived.Test.YtjogfeichnkffaaMathG
import Derived.Test.YtjogfeichnkffaaTu
namespace Go.Proofs.Ytjogfeichnkffaa

structure Sw where
  a : Nat
  b : Nat
  c : Nat
  d : Nat
deriving DecidableEq

def swL (a b c lo d : Nat) : List Sw := (List.range' lo (d - lo)).map (fun d => ⟨a, b, c, d⟩)
def swC (m a b c : Nat) : List Sw := (List.range c).flatMap (fun c => swL a b c (c + 1) m)
def swB (m a lo b : Nat) : List Sw := (List.range' lo (b - lo)).flatMap (fun b => swC m a b m)
def swA (h m a : Nat) : List Sw := (List.range a).flatMap (fun a => swB m a (a + 1) h)
/-- the switches ahead of (a, b, c, d) -/
def swP (h m a b c d : Nat) : List Sw := swA h m a ++ (swB m a (a + 1) b ++ (swC m a b c ++ swL a b c (c + 1) d))
def swAll (h m : Nat) : List Sw := swA h m h

theorem range'_snoc {lo d : Nat} (h : lo ≤ d) : List.range' lo (d + 1 - lo) = List.range' lo (d - lo) ++ [d] := by
  have e : d + 1 - lo = (d - lo) + 1 := by omega
  have e2 : lo + (d - lo) = d := by omega
  rw [e, List.range'_concat]
  simp [e2]
theorem swL_nil (a b c lo : Nat) : swL a b c lo lo = [] := by simp [swL]
theorem swP_0 (h m : Nat) : swP h m 0 1 0 1 = [] := by simp [swP, swA, swB, swC, swL]
theorem swP_d {h m a b c d : Nat} (hd : c + 1 ≤ d) : swP h m a b c (d + 1) = swP h m a b c d ++ [⟨a, b, c, d⟩] := by
  have e : swL a b c (c + 1) (d + 1) = swL a b c (c + 1) d ++ [⟨a, b, c, d⟩] := by
    rw [swL, range'_snoc hd, List.map_append]; rfl
  simp only [swP, e, List.append_assoc]
theorem swP_c {h m a b c : Nat} : swP h m a b (c + 1) (c + 1 + 1) = swP h m a b c m := by
  have e : swC m a b (c + 1) = swC m a b c ++ swL a b c (c + 1) m := by
    simp [swC, List.range_succ, List.flatMap_append]
  simp only [swP, e, swL_nil, List.append_nil]
theorem swP_b {h m a b : Nat} (hb : a + 1 ≤ b) : swP h m a (b + 1) 0 1 = swP h m a b m (m + 1) := by
  have e : swB m a (a + 1) (b + 1) = swB m a (a + 1) b ++ swC m a b m := by
    rw [swB, range'_snoc hb, List.flatMap_append]; simp [swB]
  simp only [swP, e, swL_nil, List.append_nil]
  simp [swC, swL]
theorem swP_a {h m a : Nat} : swP h m (a + 1) (a + 1 + 1) 0 1 = swP h m a h 0 1 := by
  have e : swA h m (a + 1) = swA h m a ++ swB m a (a + 1) h := by
    simp [swA, List.range_succ, List.flatMap_append]
  simp only [swP, e]
  simp [swC, swL, swB]
theorem swP_end (h m : Nat) : swP h m h (h + 1) 0 1 = swAll h m := by simp [swP, swB, swC, swL, swAll]

theorem flatMap_le {α β : Type} {l : List α} {f : α → List β} {k : Nat} (hf : ∀ x ∈ l, (f x).length ≤ k) : (l.flatMap f).length ≤ l.length * k := by
  induction l with
  | nil => simp
  | cons a l ih =>
    have h1 := hf a (by simp)
    have h2 := ih (fun x hx => hf x (by simp [hx]))
    simp only [List.flatMap_cons, List.length_append, List.length_cons, Nat.add_mul, Nat.one_mul]
    omega
theorem swL_len (a b c lo d : Nat) : (swL a b c lo d).length ≤ d := by simp [swL]
theorem swC_len (m a b c : Nat) : (swC m a b c).length ≤ c * m := by
  have := flatMap_le (l := List.range c) (f := fun c => swL a b c (c + 1) m) (k := m) (fun x _ => swL_len _ _ _ _ _)
  simpa [swC] using this
theorem swB_len (m a lo b : Nat) : (swB m a lo b).length ≤ b * (m * m) := by
  have := flatMap_le (l := List.range' lo (b - lo)) (f := fun b => swC m a b m) (k := m * m) (fun x _ => swC_len _ _ _ _)
  simp only [List.length_range'] at this
  exact Nat.le_trans this (Nat.mul_le_mul_right _ (by omega))
theorem swA_len (h m a : Nat) : (swA h m a).length ≤ a * (h * (m * m)) := by
  have := flatMap_le (l := List.range a) (f := fun a => swB m a (a + 1) h) (k := h * (m * m)) (fun x _ => swB_len _ _ _ _)
  simpa [swA] using this
theorem swP_len {h m a b c d : Nat} (hh : h ≤ 6) (hm : m ≤ 6) (ha : a ≤ h) (hb : b ≤ h) (hc : c ≤ m) (hd : d ≤ m) : (swP h m a b c d).length < 1600 := by
  have h1 := swA_len h m a
  have h2 := swB_len m a (a + 1) b
  have h3 := swC_len m a b c
  have h4 := swL_len a b c (c + 1) d
  have e1 : m * m ≤ 6 * 6 := Nat.mul_le_mul hm hm
  have e2 : h * (m * m) ≤ 6 * 36 := Nat.mul_le_mul hh e1
  have e3 : a * (h * (m * m)) ≤ 6 * 216 := Nat.mul_le_mul (by omega) e2
  have e4 : b * (m * m) ≤ 6 * 36 := Nat.mul_le_mul (by omega) e1
  have e5 : c * m ≤ 6 * 6 := Nat.mul_le_mul (by omega) hm
  simp only [swP, List.length_append]
  omega

def swOk (xs : List Int) (s : Sw) : Bool := (cellF xs s.b s.d == cellF xs s.a s.c) && (cellF xs s.a s.d != cellF xs s.a s.c) && (cellF xs s.b s.c != cellF xs s.a s.c)
def inSw (s : Sw) (i j : Nat) : Bool := (i == s.a || i == s.b) && (j == s.c || j == s.d)
/-- the image with the switch's four cells turned over -/
def swDo (m : Nat) (xs : List Int) (s : Sw) : List Int := img (fun i j => cellF xs i j ^^ inSw s i j) xs.length m
/-- the switches of an image -/
def swList (m : Nat) (xs : List Int) : List Sw := (swAll xs.length m).filter (swOk xs)
/-- the neighbors of an image -/
def nbrs (m : Nat) (xs : List Int) : List (List Int) := (swList m xs).map (swDo m xs)

theorem cellF_img' {f : Nat → Nat → Bool} {h m i j : Nat} (hi : i < h) (hj : j < m) : cellF (img f h m) i j = f i j := by
  simp [cellF, img_get hi, testBit_mkRow, hj]
theorem mem_swL {a b c lo d : Nat} {s : Sw} : s ∈ swL a b c lo d ↔ s.a = a ∧ s.b = b ∧ s.c = c ∧ lo ≤ s.d ∧ s.d < d := by
  simp only [swL, List.mem_map, List.mem_range'_1]
  constructor
  · rintro ⟨x, hx, rfl⟩; simp; omega
  · rintro ⟨rfl, rfl, rfl, h1, h2⟩; exact ⟨s.d, by omega, rfl⟩
theorem mem_swC {m a b c : Nat} {s : Sw} : s ∈ swC m a b c ↔ s.a = a ∧ s.b = b ∧ s.c < c ∧ s.c < s.d ∧ s.d < m := by
  simp only [swC, List.mem_flatMap, List.mem_range, mem_swL]
  constructor
  · rintro ⟨x, hx, h1, h2, h3, h4, h5⟩; omega
  · rintro ⟨h1, h2, h3, h4, h5⟩; exact ⟨s.c, h3, h1, h2, rfl, by omega, h5⟩
theorem mem_swB {m a lo b : Nat} {s : Sw} : s ∈ swB m a lo b ↔ s.a = a ∧ lo ≤ s.b ∧ s.b < b ∧ s.c < s.d ∧ s.d < m := by
  simp only [swB, List.mem_flatMap, List.mem_range'_1, mem_swC]
  constructor
  · rintro ⟨x, hx, h1, h2, h3, h4, h5⟩; omega
  · rintro ⟨h1, h2, h3, h4, h5⟩; exact ⟨s.b, by omega, h1, rfl, by omega, h4, h5⟩
theorem mem_swAll {h m : Nat} {s : Sw} : s ∈ swAll h m ↔ s.a < s.b ∧ s.b < h ∧ s.c < s.d ∧ s.d < m := by
  simp only [swAll, swA, List.mem_flatMap, List.mem_range, mem_swB]
  constructor
  · rintro ⟨x, hx, h1, h2, h3, h4, h5⟩; omega
  · rintro ⟨h1, h2, h3, h4⟩; exact ⟨s.a, by omega, rfl, by omega, h2, h3, h4⟩
theorem mem_swList {m : Nat} {xs : List Int} {s : Sw} : s ∈ swList m xs ↔ (s.a < s.b ∧ s.b < xs.length ∧ s.c < s.d ∧ s.d < m) ∧ swOk xs s = true := by
  simp only [swList, List.mem_filter, mem_swAll]
theorem swDo_len (m : Nat) (xs : List Int) (s : Sw) : (swDo m xs s).length = xs.length := by simp [swDo, img_len]
theorem swDo_cell {m : Nat} {xs : List Int} {s : Sw} {i j : Nat} (hi : i < xs.length) (hj : j < m) : cellF (swDo m xs s) i j = (cellF xs i j ^^ inSw s i j) := by
  rw [swDo, cellF_img' hi hj]
/-- an image is the image of its cells -/
theorem img_self {m : Nat} {xs : List Int} (h : okB (m : Int) xs = true) : img (cellF xs) xs.length m = xs := by
  obtain ⟨m', f, e1, _, _, e⟩ := okB_rows h
  have e1 : m = m' := by omega
  subst e1
  conv => rhs; rw [e]
  refine img_congr (fun i hi j hj => ?_)
  conv => lhs; rw [e]
  exact cellF_img' hi hj
/-- a switch done twice leaves the image -/
theorem swDo_back {m : Nat} {xs : List Int} (h : okB (m : Int) xs = true) (s : Sw) : swDo m (swDo m xs s) s = xs := by
  conv => rhs; rw [← img_self h]
  rw [swDo, swDo_len]
  refine img_congr (fun i hi j hj => ?_)
  rw [swDo_cell hi hj, Bool.xor_assoc, Bool.xor_self, Bool.xor_false]
theorem swDo_ok {m : Nat} {xs : List Int} {s : Sw} (hs : s ∈ swList m xs) : swOk (swDo m xs s) s = true := by
  obtain ⟨⟨h1, h2, h3, h4⟩, h5⟩ := mem_swList.1 hs
  simp only [swOk] at h5 ⊢
  rw [swDo_cell h2 h4, swDo_cell (by omega) (by omega), swDo_cell (by omega) h4, swDo_cell h2 (by omega)]
  have e1 : inSw s s.b s.d = true := by simp [inSw]
  have e2 : inSw s s.a s.c = true := by simp [inSw]
  have e3 : inSw s s.a s.d = true := by simp [inSw]
  have e4 : inSw s s.b s.c = true := by simp [inSw]
  rw [e1, e2, e3, e4]
  revert h5
  cases cellF xs s.b s.d <;> cases cellF xs s.a s.c <;> cases cellF xs s.a s.d <;> cases cellF xs s.b s.c <;> simp
/-- neighbors are neighbors of each other -/
theorem nbrs_back {m : Nat} {xs ys : List Int} (h : okB (m : Int) xs = true) (hy : ys ∈ nbrs m xs) : xs ∈ nbrs m ys := by
  simp only [nbrs, List.mem_map] at hy ⊢
  obtain ⟨s, hs, rfl⟩ := hy
  refine ⟨s, ?_, swDo_back h s⟩
  have hs' := mem_swList.1 hs
  exact mem_swList.2 ⟨by rw [swDo_len]; exact hs'.1, swDo_ok hs⟩
end Go.Proofs.Ytjogfeichnkffaa
