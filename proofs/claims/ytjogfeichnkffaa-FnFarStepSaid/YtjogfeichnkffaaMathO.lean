
/- Plain mathematics: the images that switches reach, and how far they are. -/
import Derived.Test.YtjogfeichnkffaaMathN
namespace Go.Proofs.Ytjogfeichnkffaa

inductive Path (m : Nat) (xs : List Int) : List Int → Nat → Prop
  | nil : Path m xs xs 0
  | step {ys zs : List Int} {n : Nat} : Path m xs ys n → zs ∈ nbrs m ys → Path m xs zs (n + 1)

def seen (wk : List (List Int × Nat)) (z : List Int) : Bool := wk.any (fun e => e.1 == z)
def bAdd1 (d : Nat) (wk : List (List Int × Nat)) (z : List Int) : List (List Int × Nat) := if seen wk z then wk else wk ++ [(z, d)]
def bAdd (d : Nat) (wk : List (List Int × Nat)) (zs : List (List Int)) : List (List Int × Nat) := zs.foldl (bAdd1 d) wk
/-- the images found after k of them have been worked off -/
def bfs (m : Nat) (xs : List Int) : Nat → List (List Int × Nat)
  | 0 => [(xs, 0)]
  | k + 1 => match (bfs m xs k)[k]? with
    | some e => bAdd (e.2 + 1) (bfs m xs k) (nbrs m e.1)
    | none => bfs m xs k

theorem seen_iff {wk : List (List Int × Nat)} {z : List Int} : seen wk z = true ↔ ∃ f ∈ wk, f.1 = z := by simp [seen]

structure BInv (m : Nat) (xs : List Int) (k : Nat) (wk : List (List Int × Nat)) : Prop where
  path : ∀ e ∈ wk, Path m xs e.1 e.2
  nodup : (wk.map (·.1)).Nodup
  first : wk[0]? = some (xs, 0)
  sorted : ∀ (i j : Nat) (e f : List Int × Nat), wk[i]? = some e → wk[j]? = some f → i ≤ j → e.2 ≤ f.2
  done : ∀ (i : Nat) (e : List Int × Nat), i < k → wk[i]? = some e → ∀ z ∈ nbrs m e.1, ∃ f ∈ wk, f.1 = z ∧ f.2 ≤ e.2 + 1

theorem snoc_get {α : Type} {l : List α} {x : α} {i : Nat} {e : α} (h : (l ++ [x])[i]? = some e) : l[i]? = some e ∨ (i = l.length ∧ e = x) := by
  rcases Nat.lt_trichotomy i l.length with hi | hi | hi
  · rw [List.getElem?_append_left hi] at h; exact .inl h
  · subst hi; simp at h; exact .inr ⟨rfl, h.symm⟩
  · rw [List.getElem?_append_right (by omega)] at h
    have : i - l.length ≠ 0 := by omega
    simp [this] at h
theorem get_snoc {α : Type} {l : List α} {x : α} {i : Nat} {e : α} (h : l[i]? = some e) : (l ++ [x])[i]? = some e := by
  have hi : i < l.length := by
    rcases Nat.lt_or_ge i l.length with h' | h'
    · exact h'
    · rw [List.getElem?_eq_none h'] at h; cases h
  rw [List.getElem?_append_left hi]; exact h

/-- the state amid the neighbors zs of image k -/
structure BMid (m : Nat) (xs : List Int) (k : Nat) (e0 : List Int × Nat) (zs : List (List Int)) (wk : List (List Int × Nat)) : Prop extends BInv m xs k wk where
  cur : wk[k]? = some e0
  top : ∀ f ∈ wk, f.2 ≤ e0.2 + 1
  part : ∀ z ∈ zs, ∃ f ∈ wk, f.1 = z ∧ f.2 ≤ e0.2 + 1

theorem BMid.add {m : Nat} {xs : List Int} {k : Nat} {e0 : List Int × Nat} {zs : List (List Int)} {wk : List (List Int × Nat)} (h : BMid m xs k e0 zs wk) {z : List Int} (hz : z ∈ nbrs m e0.1) :
    BMid m xs k e0 (zs ++ [z]) (bAdd1 (e0.2 + 1) wk z) := by
  unfold bAdd1
  cases hs : seen wk z with
  | true =>
    rw [if_pos rfl]
    obtain ⟨f, hf, e⟩ := seen_iff.1 hs
    refine { h with part := fun y hy => ?_ }
    rcases List.mem_append.1 hy with hy | hy
    · exact h.part y hy
    · obtain rfl := List.mem_singleton.1 hy
      exact ⟨f, hf, e, h.top f hf⟩
  | false =>
    rw [if_neg (by simp)]
    have hn : ∀ f ∈ wk, f.1 ≠ z := fun f hf e => by
      have := seen_iff.2 ⟨f, hf, e⟩
      rw [hs] at this; cases this
    have hk0 : e0 ∈ wk := List.mem_of_getElem? h.cur
    refine ⟨⟨?_, ?_, get_snoc h.first, ?_, ?_⟩, get_snoc h.cur, ?_, ?_⟩
    · intro e he
      rcases List.mem_append.1 he with he | he
      · exact h.path e he
      · obtain rfl := List.mem_singleton.1 he
        exact .step (h.path e0 hk0) hz
    · rw [List.map_append, List.nodup_append]
      refine ⟨h.nodup, by simp, ?_⟩
      intro a ha b hb
      obtain ⟨f, hf, rfl⟩ := List.mem_map.1 ha
      simp at hb
      subst hb
      exact hn f hf
    · intro i j e f hi hj hij
      rcases snoc_get hi with hi | ⟨hi, rfl⟩
      · rcases snoc_get hj with hj | ⟨hj, rfl⟩
        · exact h.sorted i j e f hi hj hij
        · exact h.top e (List.mem_of_getElem? hi)
      · rcases snoc_get hj with hj | ⟨hj, rfl⟩
        · have : j < wk.length := (List.getElem?_eq_some_iff.1 hj).1
          omega
        · exact Nat.le_refl _
    · intro i e hik hi y hy
      rcases snoc_get hi with hi | ⟨hi, rfl⟩
      · obtain ⟨f, hf, e1, e2⟩ := h.done i e hik hi y hy
        exact ⟨f, List.mem_append_left _ hf, e1, e2⟩
      · have : k < wk.length := (List.getElem?_eq_some_iff.1 h.cur).1
        omega
    · intro f hf
      rcases List.mem_append.1 hf with hf | hf
      · exact h.top f hf
      · obtain rfl := List.mem_singleton.1 hf
        exact Nat.le_refl _
    · intro y hy
      rcases List.mem_append.1 hy with hy | hy
      · obtain ⟨f, hf, e1, e2⟩ := h.part y hy
        exact ⟨f, List.mem_append_left _ hf, e1, e2⟩
      · obtain rfl := List.mem_singleton.1 hy
        exact ⟨_, List.mem_append_right _ (List.mem_singleton.2 rfl), rfl, Nat.le_refl _⟩
theorem BMid.adds {m : Nat} {xs : List Int} {k : Nat} {e0 : List Int × Nat} (ys : List (List Int)) : ∀ {zs : List (List Int)} {wk : List (List Int × Nat)} (_ : BMid m xs k e0 zs wk) (_ : ∀ z ∈ ys, z ∈ nbrs m e0.1),
    BMid m xs k e0 (zs ++ ys) (bAdd (e0.2 + 1) wk ys) := by
  induction ys with
  | nil => intro zs wk h _; simpa [bAdd] using h
  | cons y ys ih =>
    intro zs wk h hy
    have h1 := h.add (hy y (by simp))
    have h2 := ih h1 (fun z hz => hy z (by simp [hz]))
    simpa [bAdd] using h2

theorem bfs_inv (m : Nat) (xs : List Int) : ∀ k, BInv m xs k (bfs m xs k) ∧ ∀ e, (bfs m xs k)[k]? = some e → ∀ f ∈ bfs m xs k, f.2 ≤ e.2 + 1
  | 0 => by
    refine ⟨⟨?_, by simp [bfs], by simp [bfs], ?_, fun i e hi => by omega⟩, ?_⟩
    · intro e he
      simp [bfs] at he
      subst he
      exact .nil
    · intro i j e f hi hj _
      have h1 := List.mem_of_getElem? hi
      have h2 := List.mem_of_getElem? hj
      simp [bfs] at h1 h2
      subst h1; subst h2; exact Nat.le_refl _
    · intro e _ f hf
      simp [bfs] at hf
      subst hf
      exact Nat.zero_le _
  | k + 1 => by
    obtain ⟨h, ht⟩ := bfs_inv m xs k
    cases hk : (bfs m xs k)[k]? with
    | none =>
      have e : bfs m xs (k + 1) = bfs m xs k := by simp [bfs, hk]
      rw [e]
      have hl : (bfs m xs k).length ≤ k := List.getElem?_eq_none_iff.1 hk
      refine ⟨{ h with done := fun i e _ hi => h.done i e (Nat.lt_of_lt_of_le (List.getElem?_eq_some_iff.1 hi).1 hl) hi }, fun e he => ?_⟩
      have := (List.getElem?_eq_some_iff.1 he).1
      omega
    | some e0 =>
      have e : bfs m xs (k + 1) = bAdd (e0.2 + 1) (bfs m xs k) (nbrs m e0.1) := by simp [bfs, hk]
      have h1 : BMid m xs k e0 [] (bfs m xs k) := { h with cur := hk, top := ht e0 hk, part := fun z hz => by cases hz }
      have h2 := h1.adds (nbrs m e0.1) (fun z hz => hz)
      rw [← e] at h2
      rw [List.nil_append] at h2
      refine ⟨{ h2.toBInv with done := fun i f hi hf => ?_ }, fun e' he' f hf => ?_⟩
      · rcases Nat.lt_or_ge i k with hik | hik
        · exact h2.done i f hik hf
        · obtain rfl : i = k := by omega
          rw [h2.cur] at hf
          cases hf
          exact h2.part
      · have h3 := h2.sorted k (k + 1) e0 e' h2.cur he' (by omega)
        have h4 := h2.top f hf
        omega

/-- from some number on nothing is found any more -/
theorem bfs_stay (m : Nat) (xs : List Int) {k : Nat} (h : (bfs m xs k).length ≤ k) : ∀ j, bfs m xs (k + j) = bfs m xs k
  | 0 => rfl
  | j + 1 => by
    have ih := bfs_stay m xs h j
    have e : (bfs m xs (k + j))[k + j]? = none := by rw [ih]; exact List.getElem?_eq_none (by omega)
    rw [← Nat.add_assoc]
    simp only [bfs]
    rw [e]; exact ih

/-- the number of an image -/
def keyN (m : Nat) (xs : List Int) : Nat := xs.foldr (fun x n => n * 2 ^ m + x.toNat) 0
theorem keyN_lt {m : Nat} : ∀ {xs : List Int}, (∀ x ∈ xs, x.toNat < 2 ^ m) → keyN m xs < 2 ^ (xs.length * m)
  | [], _ => by simp [keyN]
  | x :: xs, h => by
    have h1 := h x (by simp)
    have h2 := keyN_lt (xs := xs) (fun y hy => h y (by simp [hy]))
    have e : keyN m (x :: xs) = keyN m xs * 2 ^ m + x.toNat := rfl
    rw [e, List.length_cons, Nat.add_mul, Nat.one_mul, Nat.pow_add]
    have h3 : (keyN m xs + 1) * 2 ^ m ≤ 2 ^ (xs.length * m) * 2 ^ m := Nat.mul_le_mul_right _ h2
    rw [Nat.add_mul, Nat.one_mul] at h3
    omega
theorem keyN_inj {m : Nat} : ∀ {xs ys : List Int}, xs.length = ys.length → (∀ x ∈ xs, 0 ≤ x ∧ x.toNat < 2 ^ m) → (∀ x ∈ ys, 0 ≤ x ∧ x.toNat < 2 ^ m) → keyN m xs = keyN m ys → xs = ys
  | [], [], _, _, _, _ => rfl
  | x :: xs, y :: ys, hl, hx, hy, he => by
    have h1 := hx x (by simp)
    have h2 := hy y (by simp)
    have e1 : keyN m (x :: xs) = keyN m xs * 2 ^ m + x.toNat := rfl
    have e2 : keyN m (y :: ys) = keyN m ys * 2 ^ m + y.toNat := rfl
    rw [e1, e2] at he
    have hp : 0 < 2 ^ m := Nat.pow_pos (by omega)
    have a1 : (keyN m xs * 2 ^ m + x.toNat) % 2 ^ m = x.toNat := by rw [Nat.mul_comm, Nat.mul_add_mod, Nat.mod_eq_of_lt h1.2]
    have a2 : (keyN m ys * 2 ^ m + y.toNat) % 2 ^ m = y.toNat := by rw [Nat.mul_comm, Nat.mul_add_mod, Nat.mod_eq_of_lt h2.2]
    have b1 : (keyN m xs * 2 ^ m + x.toNat) / 2 ^ m = keyN m xs := by rw [Nat.mul_comm, Nat.mul_add_div hp, Nat.div_eq_of_lt h1.2, Nat.add_zero]
    have b2 : (keyN m ys * 2 ^ m + y.toNat) / 2 ^ m = keyN m ys := by rw [Nat.mul_comm, Nat.mul_add_div hp, Nat.div_eq_of_lt h2.2, Nat.add_zero]
    rw [he] at a1 b1
    have c1 : x.toNat = y.toNat := a1.symm.trans a2
    have c2 : keyN m xs = keyN m ys := b1.symm.trans b2
    have c3 : x = y := by omega
    rw [c3, keyN_inj (by simpa using hl) (fun z hz => hx z (by simp [hz])) (fun z hz => hy z (by simp [hz])) c2]
theorem nodup_le : ∀ {N : Nat} {l : List Nat}, l.Nodup → (∀ x ∈ l, x < N) → l.length ≤ N
  | 0, l, _, h => by
    cases l with
    | nil => simp
    | cons x l => exact absurd (h x (by simp)) (by omega)
  | N + 1, l, hd, h => by
    have h1 : (l.erase N).Nodup := hd.erase N
    have h2 : ∀ x ∈ l.erase N, x < N := fun x hx => by
      have h3 := (List.Nodup.mem_erase_iff hd).1 hx
      have := h x h3.2
      have := h3.1
      omega
    have h3 := nodup_le h1 h2
    have h4 : l.length ≤ (l.erase N).length + 1 := by
      rw [List.length_erase]; split <;> omega
    omega

theorem okB_cells {m : Nat} {xs : List Int} (h : okB (m : Int) xs = true) : ∀ x ∈ xs, 0 ≤ x ∧ x.toNat < 2 ^ m := by
  intro x hx
  obtain ⟨i, hi, rfl⟩ := List.getElem_of_mem hx
  have ha := allIn_at (okB_all h) i hi
  rw [Int.toNat_natCast, List.getElem?_eq_getElem hi, Option.getD_some] at ha
  have e2 : ((2 ^ m : Nat) : Int) = (2 : Int) ^ m := by simp
  omega
theorem nbrs_ok {m : Nat} {xs ys : List Int} (h : okB (m : Int) xs = true) (hy : ys ∈ nbrs m xs) : okB (m : Int) ys = true ∧ ys.length = xs.length := by
  simp only [nbrs, List.mem_map] at hy
  obtain ⟨s, _, rfl⟩ := hy
  have hb := okB_bd h
  exact ⟨okB_img (by omega) (by omega) (by omega) (by omega), swDo_len m xs s⟩
theorem path_ok {m n : Nat} {xs ys : List Int} (h : okB (m : Int) xs = true) (hp : Path m xs ys n) : okB (m : Int) ys = true ∧ ys.length = xs.length := by
  induction hp with
  | nil => exact ⟨h, rfl⟩
  | step _ hz ih =>
    have := nbrs_ok ih.1 hz
    exact ⟨this.1, by omega⟩
theorem Path.head {m n : Nat} {xs ys zs : List Int} (h1 : ys ∈ nbrs m xs) (hp : Path m ys zs n) : Path m xs zs (n + 1) := by
  induction hp with
  | nil => exact .step .nil h1
  | step _ hz ih => exact .step ih hz
theorem Path.back {m n : Nat} {xs ys : List Int} (h : okB (m : Int) xs = true) (hp : Path m xs ys n) : Path m ys xs n := by
  induction hp with
  | nil => exact .nil
  | step hp hz ih => exact Path.head (nbrs_back (path_ok h hp).1 hz) ih
theorem Path.trans {m n k : Nat} {xs ys zs : List Int} (hp : Path m xs ys n) (hq : Path m ys zs k) : Path m xs zs (n + k) := by
  induction hq with
  | nil => exact hp
  | step _ hz ih => exact .step ih hz

theorem bfs_len {m : Nat} {xs : List Int} (h : okB (m : Int) xs = true) (k : Nat) : (bfs m xs k).length ≤ 2 ^ (xs.length * m) := by
  have hi := (bfs_inv m xs k).1
  have hok : ∀ z ∈ (bfs m xs k).map (·.1), okB (m : Int) z = true ∧ z.length = xs.length := by
    intro z hz
    obtain ⟨e, he, rfl⟩ := List.mem_map.1 hz
    exact path_ok h (hi.path e he)
  have h1 : (((bfs m xs k).map (·.1)).map (keyN m)).Nodup := by
    rw [List.nodup_iff_pairwise_ne, List.pairwise_map]
    refine List.Pairwise.imp_of_mem ?_ (List.nodup_iff_pairwise_ne.1 hi.nodup)
    intro a b ha hb hne e
    exact hne (keyN_inj (by rw [(hok a ha).2, (hok b hb).2]) (okB_cells (hok a ha).1) (okB_cells (hok b hb).1) e)
  have h2 := nodup_le h1 (N := 2 ^ (xs.length * m)) (fun x hx => by
    obtain ⟨z, hz, rfl⟩ := List.mem_map.1 hx
    have := keyN_lt (fun x hx => (okB_cells (hok z hz).1 x hx).2)
    rwa [(hok z hz).2] at this)
  simpa using h2
/-- all that is reached -/
def reach (m : Nat) (xs : List Int) : List (List Int × Nat) := bfs m xs (2 ^ (xs.length * m))
theorem reach_eq {m : Nat} {xs : List Int} (h : okB (m : Int) xs = true) {k : Nat} (hk : (bfs m xs k).length ≤ k) : bfs m xs k = reach m xs := by
  rcases Nat.le_total k (2 ^ (xs.length * m)) with h1 | h1
  · obtain ⟨j, hj⟩ := Nat.exists_eq_add_of_le h1
    rw [reach, hj, bfs_stay m xs hk j]
  · obtain ⟨j, hj⟩ := Nat.exists_eq_add_of_le h1
    rw [reach, hj, bfs_stay m xs (bfs_len h _) j]
theorem reach_path {m : Nat} {xs : List Int} {e : List Int × Nat} (he : e ∈ reach m xs) : Path m xs e.1 e.2 := (bfs_inv m xs _).1.path e he
theorem reach_nodup (m : Nat) (xs : List Int) : ((reach m xs).map (·.1)).Nodup := (bfs_inv m xs _).1.nodup
theorem reach_all {m n : Nat} {xs ys : List Int} (h : okB (m : Int) xs = true) (hp : Path m xs ys n) : ∃ f ∈ reach m xs, f.1 = ys ∧ f.2 ≤ n := by
  have hi := (bfs_inv m xs (2 ^ (xs.length * m))).1
  induction hp with
  | nil => exact ⟨_, List.mem_of_getElem? hi.first, rfl, Nat.le_refl _⟩
  | step hp hz ih =>
    obtain ⟨f, hf, rfl, hle⟩ := ih
    obtain ⟨i, hi1, hi2⟩ := List.getElem_of_mem hf
    have hlen := bfs_len h (2 ^ (xs.length * m))
    obtain ⟨g, hg, e1, e2⟩ := hi.done i f (Nat.lt_of_lt_of_le hi1 hlen) (by rw [← hi2]; exact List.getElem?_eq_getElem hi1) _ hz
    exact ⟨g, hg, e1, by omega⟩
theorem nodup_fst {wk : List (List Int × Nat)} (hd : (wk.map (·.1)).Nodup) {e f : List Int × Nat} (he : e ∈ wk) (hf : f ∈ wk) (h : e.1 = f.1) : e = f := by
  induction wk with
  | nil => cases he
  | cons a wk ih =>
    simp only [List.map_cons, List.nodup_cons, List.mem_map, not_exists, not_and] at hd
    rcases List.mem_cons.1 he with h1 | h1
    · rcases List.mem_cons.1 hf with h2 | h2
      · rw [h1, h2]
      · rw [h1] at h; exact absurd h.symm (hd.1 f h2)
    · rcases List.mem_cons.1 hf with h2 | h2
      · rw [h2] at h; exact absurd h (hd.1 e h1)
      · exact ih hd.2 h1 h2
/-- what is told of an image is the least number of switches -/
theorem reach_least {m n : Nat} {xs : List Int} (h : okB (m : Int) xs = true) {e : List Int × Nat} (he : e ∈ reach m xs) (hp : Path m xs e.1 n) : e.2 ≤ n := by
  obtain ⟨f, hf, e1, e2⟩ := reach_all h hp
  rw [nodup_fst (reach_nodup m xs) he hf e1.symm]
  exact e2
end Go.Proofs.Ytjogfeichnkffaa
