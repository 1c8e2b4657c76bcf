
/- Plain: the neighbors are different, have the same sums, and differ in four cells. -/
import Derived.Test.YtnbaedpckdefgaaKj
import Derived.Test.YtnbaedpckdefgaaMathU
import Derived.Test.YtnbaedpckdefgaaSn
import Derived.Test.YtnbaedpckdefgaaSo
import Derived.Test.YtnbaedpckdefgaaSl
namespace Go.Proofs.Ytnbaedpckdefgaa

theorem nodup_flatMap' {α β : Type} {l : List α} {f : α → List β} (h1 : ∀ a ∈ l, (f a).Nodup) (h2 : l.Pairwise (fun a b => ∀ x ∈ f a, ∀ y ∈ f b, x ≠ y)) : (l.flatMap f).Nodup :=
  List.pairwise_flatMap.2 ⟨h1, h2⟩
theorem range_pw {n : Nat} {R : Nat → Nat → Prop} (h : ∀ i j, i < j → R i j) : (List.range n).Pairwise R := List.Pairwise.imp (fun {a b} hab => h a b hab) List.pairwise_lt_range
theorem range'_pw {s n : Nat} {R : Nat → Nat → Prop} (h : ∀ i j, i < j → R i j) : (List.range' s n).Pairwise R := List.Pairwise.imp (fun {a b} hab => h a b hab) List.pairwise_lt_range'
theorem map_pw {α β : Type} {l : List α} {f : α → β} (h : l.Pairwise (fun a b => f a ≠ f b)) : (l.map f).Nodup := List.pairwise_map.2 h
theorem swAll_nodup (h m : Nat) : (swAll h m).Nodup := by
  refine nodup_flatMap' (fun a _ => nodup_flatMap' (fun b _ => nodup_flatMap' (fun c _ => map_pw (range'_pw fun i j hij e => ?_)) (range_pw fun i j hij x hx y hy e => ?_)) (range'_pw fun i j hij x hx y hy e => ?_)) (range_pw fun i j hij x hx y hy e => ?_)
  · injection e with _ _ _ e; omega
  · have h1 := (mem_swL.1 hx).2.2.1
    have h2 := (mem_swL.1 hy).2.2.1
    rw [e] at h1; omega
  · have h1 := (mem_swC.1 hx).2.1
    have h2 := (mem_swC.1 hy).2.1
    rw [e] at h1; omega
  · have h1 := (mem_swB.1 hx).1
    have h2 := (mem_swB.1 hy).1
    rw [e] at h1; omega
theorem inSw_iff {s : Sw} {i j : Nat} : inSw s i j = true ↔ (i = s.a ∨ i = s.b) ∧ (j = s.c ∨ j = s.d) := by simp [inSw]
theorem swDo_inj {m : Nat} {xs : List Int} {s t : Sw} (hs : s ∈ swList m xs) (ht : t ∈ swList m xs) (e : swDo m xs s = swDo m xs t) : s = t := by
  obtain ⟨⟨a1, a2, a3, a4⟩, _⟩ := mem_swList.1 hs
  obtain ⟨⟨b1, b2, b3, b4⟩, _⟩ := mem_swList.1 ht
  have key : ∀ i j, i < xs.length → j < m → inSw s i j = inSw t i j := by
    intro i j hi hj
    have h1 := congrArg (fun l => cellF l i j) e
    simp only [swDo_cell hi hj] at h1
    revert h1
    cases cellF xs i j <;> cases inSw s i j <;> cases inSw t i j <;> simp
  have k1 := inSw_iff.1 ((key s.a s.c (by omega) (by omega)).symm.trans (inSw_in ⟨.inl rfl, .inl rfl⟩))
  have k2 := inSw_iff.1 ((key s.b s.d (by omega) (by omega)).symm.trans (inSw_in ⟨.inr rfl, .inr rfl⟩))
  obtain ⟨sa, sb, sc, sd⟩ := s
  obtain ⟨ta, tb, tc, td⟩ := t
  dsimp only at *
  have e1 : sa = ta := by omega
  have e2 : sb = tb := by omega
  have e3 : sc = tc := by omega
  have e4 : sd = td := by omega
  rw [e1, e2, e3, e4]
theorem nbrs_nodup (m : Nat) (xs : List Int) : (nbrs m xs).Nodup := by
  refine map_pw ?_
  have h : (swList m xs).Nodup := List.Pairwise.filter _ (swAll_nodup _ _)
  refine List.Pairwise.imp_of_mem (fun {a b} ha hb hab e => hab (swDo_inj ha hb e)) h
theorem nbr_same {m : Nat} {xs y : List Int} (h : okB (m : Int) xs = true) (hy : y ∈ nbrs m xs) : sameB (m : Int) xs (m : Int) y = true := by
  obtain ⟨h1, h2⟩ := nbrs_ok h hy
  obtain ⟨s, hs, rfl⟩ := List.mem_map.1 hy
  have h3 := swDo_sums h hs
  have h4 := sizeB_mk h h1 h2.symm
  simp [sameB, sFit, h4, h, h3.1, h3.2]
theorem nbr_dist2 {m : Nat} {xs y : List Int} (hy : y ∈ nbrs m xs) : dist2 xs.length m (cellF xs) (cellF y) = 4 := by
  obtain ⟨s, hs, rfl⟩ := List.mem_map.1 hy
  have h3 := swDo_dist (ys := xs) (mem_swList.1 hs).1
  rw [dist2_self (f := cellF xs) (g := cellF xs) (fun _ _ _ _ => rfl)] at h3
  simp only [Bool.xor_self, Bool.not_false, b1, if_true, Bool.false_eq_true, if_false] at h3
  rw [dist2_symm]
  omega
theorem nbr_dist {m : Nat} {xs y : List Int} (h : okB (m : Int) xs = true) (hy : y ∈ nbrs m xs) : distW (m : Int) xs (m : Int) y = 4 := by
  obtain ⟨h1, h2⟩ := nbrs_ok h hy
  rw [distW, if_pos (sizeB_mk h h1 h2.symm), distX_eq h h1 h2.symm, nbr_dist2 hy]
  rfl
theorem sameB_iff' {m : Nat} {xs ys : List Int} (hx : okB (m : Int) xs = true) (hy : okB (m : Int) ys = true) (hl : xs.length = ys.length) : sameB (m : Int) xs (m : Int) ys = true ↔ rSums (m : Int) xs = rSums (m : Int) ys ∧ cSums (m : Int) xs = cSums (m : Int) ys := by
  simp [sameB, sFit, sizeB_mk hx hy hl, hx]
theorem nbrs_len_sw (m : Nat) (xs : List Int) : (nbrs m xs).length = (swList m xs).length := by simp [nbrs]
theorem swMany_nbrs {m : Nat} {xs : List Int} (h : okB (m : Int) xs = true) : swManyW (m : Int) xs = ((nbrs m xs).length : Int) := by
  simp [swManyW, swListW, h, nbrs_len_sw]
theorem nodup_get {l : List (List Int)} (h : l.Nodup) {i k : Nat} {x y : List Int} (hi : l[i]? = some x) (hk : l[k]? = some y) (hne : k < i) : x ≠ y := by
  rintro rfl
  obtain ⟨h1, e1⟩ := List.getElem?_eq_some_iff.1 hi
  obtain ⟨h2, e2⟩ := List.getElem?_eq_some_iff.1 hk
  have := (List.pairwise_iff_getElem.1 h) k i h2 h1 hne
  exact this (by rw [e1, e2])
theorem reach_more {m : Nat} {xs : List Int} (h : okB (m : Int) xs = true) : (nbrs m xs).length < (reach m xs).length := by
  have h1 : (xs :: nbrs m xs).Nodup := List.nodup_cons.2 ⟨fun hm => nbr_ne hm rfl, nbrs_nodup m xs⟩
  have h2 := nodup_sub (l' := (reach m xs).map (·.1)) h1 (fun y hy => by
    rcases List.mem_cons.1 hy with rfl | hy
    · exact reach_first h
    · obtain ⟨f, hf, rfl, _⟩ := reach_all h (Path.step .nil hy)
      exact List.mem_map.2 ⟨f, hf, rfl⟩)
  rw [List.length_cons, List.length_map] at h2
  omega
theorem nbrs_turn_le {m : Nat} {xs : List Int} (h : okB (m : Int) xs = true) : (nbrs m xs).length ≤ (nbrs xs.length (turnL m xs)).length := by
  have hd : ((nbrs m xs).map (turnL m)).Nodup := map_pw (List.Pairwise.imp_of_mem (fun {a b} ha hb hab e => hab (turnL_inj (nbrs_ok h ha).1 (nbrs_ok h hb).1 (by rw [(nbrs_ok h ha).2, (nbrs_ok h hb).2]) e)) (nbrs_nodup m xs))
  have := nodup_sub hd (l' := nbrs xs.length (turnL m xs)) (fun y hy => by
    obtain ⟨z, hz, rfl⟩ := List.mem_map.1 hy
    exact turnL_nbr hz)
  rwa [List.length_map] at this
theorem nbrs_turn {m : Nat} {xs : List Int} (h : okB (m : Int) xs = true) : (nbrs xs.length (turnL m xs)).length = (nbrs m xs).length := by
  have h1 := nbrs_turn_le h
  have h2 := nbrs_turn_le (turnL_ok h)
  rw [turnL_len, turnL_back h] at h2
  omega
theorem nbr_distX {m : Nat} {xs y : List Int} (h : okB (m : Int) xs = true) (hy : y ∈ nbrs m xs) : distX xs y = 4 := by
  obtain ⟨h1, h2⟩ := nbrs_ok h hy
  rw [distX_eq h h1 h2.symm, nbr_dist2 hy]
theorem path_one {m k : Nat} {xs y : List Int} (h : okB (m : Int) xs = true) (hy : y ∈ nbrs m xs) (hp : Path m xs y k) (he : xs = y ∧ k = 0 ∨ 2 * k + 2 ≤ distX xs y) : k = 1 := by
  have hne := nbr_ne hy
  rw [nbr_distX h hy] at he
  rcases he with ⟨e, _⟩ | he
  · exact absurd e.symm hne
  · rcases Nat.eq_zero_or_pos k with h0 | h0
    · subst h0
      cases hp
      exact absurd rfl hne
    · omega
end Go.Proofs.Ytnbaedpckdefgaa
