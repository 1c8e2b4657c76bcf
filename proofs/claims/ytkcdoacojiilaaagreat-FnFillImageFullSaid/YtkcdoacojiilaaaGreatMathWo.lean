
/- Plain mathematics: the weights of a unique image, place by place. -/
import Derived.Test.YtkcdoacojiilaaaGreatMathUq
import Derived.Test.YtkcdoacojiilaaaGreatMathOd
namespace Go.Proofs.YtkcdoacojiilaaaGreat

/-- the place of a number in a list -/
def plc : List Int → Int → Nat
  | [], _ => 0
  | a :: l, x => if a = x then 0 else plc l x + 1
theorem plc_at : ∀ {l : List Int} {k : Nat} {x : Int}, l.Nodup → l[k]? = some x → plc l x = k
  | [], k, x, _, h => by simp at h
  | a :: l, 0, x, _, h => by simp at h; simp [plc, h]
  | a :: l, k + 1, x, hd, h => by
    rw [List.nodup_cons] at hd
    simp only [List.getElem?_cons_succ] at h
    have hne : a ≠ x := by rintro rfl; exact hd.1 (List.mem_of_getElem? h)
    simp [plc, hne, plc_at hd.2 h]
theorem plc_get : ∀ {l : List Int} {x : Int}, x ∈ l → l[plc l x]? = some x
  | a :: l, x, h => by
    by_cases e : a = x
    · simp [plc, e]
    · have h2 : x ∈ l := by
        rcases List.mem_cons.1 h with h | h
        · exact absurd h.symm e
        · exact h
      simp [plc, e, plc_get h2]
theorem plc_lt {l : List Int} {x : Int} (h : x ∈ l) : plc l x < l.length := by
  rcases Nat.lt_or_ge (plc l x) l.length with h1 | h1
  · exact h1
  · have := plc_get h
    rw [List.getElem?_eq_none h1] at this
    cases this
theorem ordL_nodup (L : List Int) : (ordL L).Nodup := by
  refine (ordL_perm L).symm.nodup ?_
  exact (iotaL_sorted _).imp (fun h => by omega)
theorem ordL_len (L : List Int) : (ordL L).length = L.length := by rw [(ordL_perm L).length_eq, iotaL_len]
theorem ordL_mem {L : List Int} {x : Int} : x ∈ ordL L ↔ 0 ≤ x ∧ x < L.length := by rw [(ordL_perm L).mem_iff, iotaL_mem]
theorem ordL_at {L : List Int} {k : Nat} (hk : k < L.length) : ∃ c : Nat, (ordL L)[k]?.getD 0 = (c : Int) ∧ c < L.length ∧ plc (ordL L) (c : Int) = k := by
  have hk2 : k < (ordL L).length := by rw [ordL_len]; exact hk
  have hm : (ordL L)[k] ∈ ordL L := List.getElem_mem hk2
  have h1 := ordL_mem.1 hm
  have e : ((ordL L)[k].toNat : Int) = (ordL L)[k] := by omega
  refine ⟨(ordL L)[k].toNat, by rw [List.getElem?_eq_getElem hk2, e]; rfl, by omega, ?_⟩
  rw [e]
  exact plc_at (ordL_nodup L) (List.getElem?_eq_getElem hk2)
/-- the weights of the columns -/
def wQ (O : List Int) (n : Nat) : List Int := (List.range n).map (fun j : Nat => -2 * ((plc O (j : Int) : Int) + 1))
/-- after k places -/
def wQk (O : List Int) (n k : Nat) : List Int := (List.range n).map (fun j : Nat => if plc O (j : Int) < k then -2 * ((plc O (j : Int) : Int) + 1) else 0)
theorem wQ_len (O : List Int) (n : Nat) : (wQ O n).length = n := by simp [wQ]
theorem wQk_len (O : List Int) (n k : Nat) : (wQk O n k).length = n := by simp [wQk]
theorem wQk_zero (O : List Int) (n : Nat) : wQk O n 0 = List.replicate n 0 := by
  rw [wQk]
  apply List.ext_getElem <;> simp
theorem wQk_step {O : List Int} {n k c : Nat} (ho : ∀ j : Nat, j < n → (j : Int) ∈ O) (hc : plc O (c : Int) = k) : (wQk O n k).set c (-2 * ((k : Int) + 1)) = wQk O n (k + 1) := by
  apply List.ext_getElem
  · simp [wQk]
  · intro i h1 h2
    rw [wQk_len] at h2
    rw [List.getElem_set]
    simp only [wQk, List.getElem_map, List.getElem_range]
    by_cases e : c = i
    · subst e
      rw [if_pos rfl, if_pos (by omega), hc]
    · rw [if_neg e]
      have hne : plc O (i : Int) ≠ k := by
        intro h
        by_cases hcn : c < n
        · have g1 := plc_get (ho i h2)
          have g2 := plc_get (ho c hcn)
          rw [h, ← hc, g2] at g1
          injection g1 with g1
          omega
        · have g1 := plc_get (ho i h2)
          rw [h, ← hc] at g1
          have : ∀ {l : List Int} {x : Int}, x ∉ l → plc l x = l.length := by
            intro l
            induction l with
            | nil => intro x _; rfl
            | cons a l ih => intro x hx; rw [List.mem_cons, not_or] at hx; simp [plc, Ne.symm hx.1, ih hx.2]
          by_cases hm : (c : Int) ∈ O
          · rw [plc_get hm] at g1
            injection g1 with g1
            omega
          · rw [this hm] at g1
            simp at g1
      by_cases hl : plc O (i : Int) < k
      · rw [if_pos hl, if_pos (by omega)]
      · rw [if_neg hl, if_neg (by omega)]
theorem wQk_all {L : List Int} {n : Nat} (hn : L.length = n) : wQk (ordL L) n n = wQ (ordL L) n := by
  rw [wQk, wQ]
  refine List.map_congr_left (fun j hj => ?_)
  rw [List.mem_range] at hj
  have := plc_lt (ordL_mem.2 (⟨by omega, by omega⟩ : 0 ≤ (j : Int) ∧ (j : Int) < L.length))
  rw [ordL_len, hn] at this
  rw [if_pos this]
/-- the reference's way: amid column j, after k places -/
def wQi (O : List Int) (j k : Nat) : List Int := wQ O j ++ (if plc O (j : Int) < k then [-2 * ((plc O (j : Int) : Int) + 1)] else [])
theorem wQi_zero (O : List Int) (j : Nat) : wQi O j 0 = wQ O j := by simp [wQi]
theorem wQi_hit {O : List Int} {j k : Nat} (h : plc O (j : Int) = k) : wQi O j (k + 1) = wQi O j k ++ [-2 * ((k : Int) + 1)] := by
  simp [wQi, h]
theorem wQi_miss {O : List Int} {j k : Nat} (h : plc O (j : Int) ≠ k) : wQi O j (k + 1) = wQi O j k := by
  have e : (plc O (j : Int) < k + 1) = (plc O (j : Int) < k) := by rw [eq_iff_iff]; omega
  simp only [wQi, e]
theorem wQi_end {L : List Int} {j : Nat} (hj : j < L.length) : wQi (ordL L) j L.length = wQ (ordL L) (j + 1) := by
  have := plc_lt (ordL_mem.2 (⟨by omega, by omega⟩ : 0 ≤ (j : Int) ∧ (j : Int) < L.length))
  rw [ordL_len] at this
  rw [wQi, if_pos this, wQ, wQ, List.range_succ, List.map_append]
  rfl
theorem wQi_len (O : List Int) (j k : Nat) : (wQi O j k).length ≤ j + 1 := by
  rw [wQi, List.length_append, wQ_len]
  split <;> simp
/-- the weights of the rows -/
def wP (R : List Int) : List Int := R.map (fun x => 2 * x + 1)
theorem wP_len (R : List Int) : (wP R).length = R.length := by simp [wP]
theorem wP_at {R : List Int} {k : Nat} (h : k < R.length) : (wP R)[k]? = some (2 * (R[k]?.getD 0) + 1) := by
  rw [wP, List.getElem?_map, List.getElem?_eq_getElem h]; rfl
theorem wP_step {R : List Int} {k : Nat} (h : k < R.length) : wP (R.take k) ++ [2 * (R[k]?.getD 0) + 1] = wP (R.take (k + 1)) := by
  rw [List.getElem?_eq_getElem h, Option.getD_some, wP, wP, List.take_succ_eq_append_getElem h, List.map_append]; rfl
/-- amid the rows -/
def wPk (R : List Int) (k : Nat) : List Int := (wP R).take k ++ R.drop k
theorem wPk_zero (R : List Int) : wPk R 0 = R := by simp [wPk]
theorem wPk_all {R : List Int} {k : Nat} (h : R.length = k) : wPk R k = wP R := by
  rw [wPk, List.take_of_length_le (by rw [wP_len]; omega), List.drop_of_length_le (by omega), List.append_nil]
theorem wPk_get {R : List Int} {k : Nat} (h : k < R.length) : (wPk R k)[k]?.getD 0 = R[k]?.getD 0 := by
  rw [wPk, List.getElem?_append_right (by rw [List.length_take, wP_len]; omega), List.length_take, wP_len, List.getElem?_drop]
  congr 2
  omega
theorem wPk_set {R : List Int} {k : Nat} (h : k < R.length) : (wPk R k).set k (2 * (R[k]?.getD 0) + 1) = wPk R (k + 1) := take_drop_set (wP R) R k _ h (wP_at h)
def ofP (W : Int) (xs : List Int) : List Int := if uniqB W xs then wP (rsum xs) else []
def ofQ (W : Int) (xs : List Int) : List Int := if uniqB W xs then wQ (ordL (csum W.toNat xs)) W.toNat else []
theorem rsum_bd (xs : List Int) {k : Nat} (hk : k < xs.length) : 0 ≤ (rsum xs)[k]?.getD 0 ∧ (rsum xs)[k]?.getD 0 ≤ 6 := by
  rw [rsum, List.getElem?_map, List.getElem?_eq_getElem hk]
  simp only [Option.map_some, Option.getD_some]
  have : pop xs[k].toNat ≤ 6 := by
    have h := List.countP_le_length (p := fun j => xs[k].toNat.testBit j) (l := List.range 6)
    rw [List.length_range] at h
    exact h
  omega
theorem csum_bd {m : Nat} {xs : List Int} (hx : xs.length ≤ 6) : ∀ x ∈ csum m xs, 0 ≤ x ∧ x ≤ 6 := by
  intro x h
  obtain ⟨j, _, rfl⟩ := List.mem_map.1 h
  have := ccnt_le xs j
  omega
theorem ofP_len {W : Int} {xs : List Int} : (ofP W xs).length ≤ 6 := by
  unfold ofP
  split
  · rename_i h
    have := okB_bd (uniqB_ok h)
    rw [wP_len, rsum_len]; omega
  · simp
theorem ofQ_len {W : Int} {xs : List Int} : (ofQ W xs).length ≤ 6 := by
  unfold ofQ
  split
  · rename_i h
    have := okB_bd (uniqB_ok h)
    rw [wQ_len]; omega
  · simp
end Go.Proofs.YtkcdoacojiilaaaGreat
