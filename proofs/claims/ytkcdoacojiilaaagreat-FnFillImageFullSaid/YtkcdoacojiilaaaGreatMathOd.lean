
/- Plain mathematics: the places of a list by descending value; the stable sort and the reference's way give the same. -/
import Derived.Test.YtkcdoacojiilaaaGreatMathY
import Derived.Test.YtkcdoacojiilaaaGreatIns
namespace Go.Proofs.YtkcdoacojiilaaaGreat

def keyL (L : List Int) (x : Int) : Int := L[x.toNat]?.getD 0
def iotaL (n : Nat) : List Int := (List.range n).map (fun i : Nat => (i : Int))
/-- the program's order -/
def ordL (L : List Int) : List Int := isort (ltC (fun x y => keyL L y - keyL L x)) (iotaL L.length)
/-- the reference's order, from value h down -/
def ordS (L : List Int) : Nat → List Int
  | 0 => (iotaL L.length).filter (fun x => decide (keyL L x = 0))
  | h + 1 => (iotaL L.length).filter (fun x => decide (keyL L x = ((h + 1 : Nat) : Int))) ++ ordS L h
def befL (L : List Int) (a b : Int) : Prop := keyL L b < keyL L a ∨ (keyL L a = keyL L b ∧ a < b)
theorem iotaL_len (n : Nat) : (iotaL n).length = n := by simp [iotaL]
theorem iotaL_mem {n : Nat} {x : Int} : x ∈ iotaL n ↔ 0 ≤ x ∧ x < n := by
  simp only [iotaL, List.mem_map, List.mem_range]
  constructor
  · rintro ⟨k, h, rfl⟩; omega
  · rintro ⟨h1, h2⟩; exact ⟨x.toNat, by omega, by omega⟩
theorem iotaL_sorted (n : Nat) : (iotaL n).Pairwise (fun a b => a < b) := by
  rw [iotaL, List.pairwise_map]
  exact List.pairwise_lt_range.imp (fun h => by omega)
theorem ordL_perm (L : List Int) : (ordL L).Perm (iotaL L.length) := isort_perm _ _
theorem ordL_sorted (L : List Int) : (ordL L).Pairwise (befL L) := by
  refine (isort_sorted (ltC (fun x y => keyL L y - keyL L x)) (by intro x y; simp only [ltC, decide_eq_true_eq, decide_eq_false_iff_not]; omega)
    (by intro x y z; simp only [ltC, decide_eq_false_iff_not]; omega) (fun a b => a < b) (iotaL L.length) (iotaL_sorted _)).imp (fun {a b} h => ?_)
  simp only [ltC, decide_eq_false_iff_not] at h
  obtain ⟨h1, h2⟩ := h
  unfold befL
  rcases Int.lt_or_le (keyL L b) (keyL L a) with h3 | h3
  · exact .inl h3
  · exact .inr ⟨by omega, h2 (by omega)⟩
theorem ordS_mem {L : List Int} {h : Nat} {x : Int} (hx : x ∈ ordS L h) : keyL L x ≤ h := by
  induction h with
  | zero => simp only [ordS, List.mem_filter, decide_eq_true_eq] at hx; omega
  | succ h ih =>
    rw [ordS, List.mem_append] at hx
    rcases hx with hx | hx
    · simp only [List.mem_filter, decide_eq_true_eq] at hx; omega
    · have := ih hx; omega
theorem ordS_lay (L : List Int) (v : Int) : ((iotaL L.length).filter (fun x => decide (keyL L x = v))).Pairwise (befL L) := by
  have h1 := (iotaL_sorted L.length).filter (fun x => decide (keyL L x = v))
  refine h1.imp_of_mem (fun {a b} ha hb h => .inr ⟨?_, h⟩)
  simp only [List.mem_filter, decide_eq_true_eq] at ha hb
  rw [ha.2, hb.2]
theorem ordS_sorted (L : List Int) : ∀ h : Nat, (ordS L h).Pairwise (befL L)
  | 0 => ordS_lay L 0
  | h + 1 => by
    rw [ordS, List.pairwise_append]
    refine ⟨ordS_lay L _, ordS_sorted L h, fun a ha b hb => .inl ?_⟩
    simp only [List.mem_filter, decide_eq_true_eq] at ha
    have := ordS_mem hb
    omega
theorem ordS_perm (L : List Int) : ∀ h : Nat, (ordS L h).Perm ((iotaL L.length).filter (fun x => decide (0 ≤ keyL L x ∧ keyL L x ≤ h)))
  | 0 => by
    rw [ordS]
    refine List.Perm.of_eq (List.filter_congr (fun x _ => ?_))
    rw [Bool.eq_iff_iff]; simp only [decide_eq_true_eq]; omega
  | h + 1 => by
    rw [ordS]
    refine ((ordS_perm L h).append_left _).trans ?_
    have := List.filter_append_perm (fun x : Int => decide (keyL L x = ((h + 1 : Nat) : Int))) ((iotaL L.length).filter (fun x => decide (0 ≤ keyL L x ∧ keyL L x ≤ ((h + 1 : Nat) : Int))))
    rw [List.filter_filter, List.filter_filter] at this
    refine (List.Perm.of_eq ?_).trans this
    congr 1
    · refine List.filter_congr (fun x _ => ?_)
      rw [Bool.eq_iff_iff]; simp only [Bool.and_eq_true, decide_eq_true_eq]; omega
    · refine List.filter_congr (fun x _ => ?_)
      rw [Bool.eq_iff_iff]; simp only [Bool.and_eq_true, decide_eq_true_eq, Bool.not_eq_true', decide_eq_false_iff_not]; omega
theorem ord_same {L : List Int} {h : Nat} (hL : ∀ x ∈ L, 0 ≤ x ∧ x ≤ (h : Int)) : ordS L h = ordL L := by
  have hp : (ordS L h).Perm (iotaL L.length) := by
    have h1 := ordS_perm L h
    rw [List.filter_eq_self.2 (fun x hx => ?_)] at h1
    · exact h1
    · rw [iotaL_mem] at hx
      have hk : x.toNat < L.length := by omega
      have h2 := hL (keyL L x) (by rw [keyL, List.getElem?_eq_getElem hk]; exact List.getElem_mem hk)
      simpa using h2
  exact (hp.trans (ordL_perm L).symm).eq_of_pairwise (fun a b _ _ h1 h2 => by unfold befL at h1 h2; omega) (ordS_sorted L h) (ordL_sorted L)
/-- the reference's order after k values, from 6 down -/
def ordT (L : List Int) : Nat → List Int
  | 0 => []
  | k + 1 => ordT L k ++ (iotaL L.length).filter (fun x => decide (keyL L x = 6 - (k : Int)))
/-- amid the value 6 - k -/
def ordI (L : List Int) (k i : Nat) : List Int := ordT L k ++ ((iotaL L.length).take i).filter (fun x => decide (keyL L x = 6 - (k : Int)))
theorem ordI_zero (L : List Int) (k : Nat) : ordI L k 0 = ordT L k := by simp [ordI]
theorem ordI_end (L : List Int) (k : Nat) : ordI L k L.length = ordT L (k + 1) := by
  rw [ordI, List.take_of_length_le (by rw [iotaL_len]; exact Nat.le_refl _), ordT]
theorem iotaL_take {n i : Nat} (h : i < n) : (iotaL n).take (i + 1) = (iotaL n).take i ++ [(i : Int)] := by
  have hl : i < (iotaL n).length := by rw [iotaL_len]; exact h
  rw [List.take_succ_eq_append_getElem hl]
  simp [iotaL]
theorem ordI_hit {L : List Int} {k i : Nat} (h : i < L.length) (e : L[i]?.getD 0 = 6 - (k : Int)) : ordI L k (i + 1) = ordI L k i ++ [(i : Int)] := by
  rw [ordI, ordI, iotaL_take h, List.filter_append, List.append_assoc]
  congr 2
  have h1 : keyL L (i : Int) = 6 - (k : Int) := by simpa [keyL] using e
  simp [h1]
theorem ordI_miss {L : List Int} {k i : Nat} (h : i < L.length) (e : ¬ L[i]?.getD 0 = 6 - (k : Int)) : ordI L k (i + 1) = ordI L k i := by
  have h1 : ¬ keyL L (i : Int) = 6 - (k : Int) := by simpa [keyL] using e
  rw [ordI, ordI, iotaL_take h, List.filter_append]
  simp [h1]
theorem ordT_seven (L : List Int) : ordT L 7 = ordS L 6 := by
  simp only [ordT, ordS, List.nil_append, List.append_assoc]
  rfl
theorem ordT_len (L : List Int) : ∀ k, (ordT L k).length ≤ k * L.length
  | 0 => by simp [ordT]
  | k + 1 => by
    have h1 := ordT_len L k
    have h2 := List.length_filter_le (fun x => decide (keyL L x = 6 - (k : Int))) (iotaL L.length)
    rw [iotaL_len] at h2
    rw [ordT, List.length_append, Nat.add_mul]
    omega
theorem ordI_len (L : List Int) (k i : Nat) : (ordI L k i).length ≤ (k + 1) * L.length := by
  have h1 := ordT_len L k
  have h2 := List.length_filter_le (fun x => decide (keyL L x = 6 - (k : Int))) ((iotaL L.length).take i)
  have h3 : ((iotaL L.length).take i).length ≤ L.length := by rw [List.length_take, iotaL_len]; omega
  rw [ordI, List.length_append, Nat.add_mul]
  omega
end Go.Proofs.YtkcdoacojiilaaaGreat
