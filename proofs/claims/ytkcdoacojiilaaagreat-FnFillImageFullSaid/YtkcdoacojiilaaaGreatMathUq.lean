
/- Plain mathematics: is an image unique; the sums of a row bit by bit. -/
import Derived.Test.YtkcdoacojiilaaaGreatKf
import Derived.Test.YtkcdoacojiilaaaGreatKg
import Derived.Test.YtkcdoacojiilaaaGreatSu
namespace Go.Proofs.YtkcdoacojiilaaaGreat

/-- an image is valid and has no switch -/
def uniqB (W : Int) (xs : List Int) : Bool := okB W xs && decide (swList W.toNat xs = [])
theorem uniqB_ok {W : Int} {xs : List Int} (h : uniqB W xs = true) : okB W xs = true := by
  rw [uniqB, Bool.and_eq_true] at h; exact h.1
theorem bit_nat (r k : Nat) : r / 2 ^ k % 2 = if r.testBit k = true then 1 else 0 := by
  have h := div_bit r k
  generalize r / 2 ^ k % 2 = v at h ⊢
  cases hb : r.testBit k with
  | false => rw [hb] at h; simp [b01] at h ⊢; omega
  | true => rw [hb] at h; simp [b01] at h ⊢; omega
def popK (r k : Nat) : Nat := (List.range k).countP (fun j => r.testBit j)
theorem popK_step (r k : Nat) : popK r (k + 1) = popK r k + r / 2 ^ k % 2 := by
  rw [popK, popK, List.range_succ, List.countP_append, List.countP_singleton, bit_nat]
theorem popK_le (r k : Nat) : popK r k ≤ k := by
  have h := List.countP_le_length (p := fun j => r.testBit j) (l := List.range k)
  rw [List.length_range] at h
  exact h
theorem popK_more {r m : Nat} (h : r < 2 ^ m) : ∀ d, popK r (m + d) = popK r m
  | 0 => rfl
  | d + 1 => by
    have h1 := popK_step r (m + d)
    have h2 : r / 2 ^ (m + d) = 0 := Nat.div_eq_of_lt (Nat.lt_of_lt_of_le h (Nat.pow_le_pow_right (by omega) (by omega)))
    rw [h2] at h1
    rw [← Nat.add_assoc, h1, popK_more h d, Nat.zero_mod, Nat.add_zero]
theorem popK_pop {r m : Nat} (h : r < 2 ^ m) (hm : m ≤ 6) : popK r m = pop r := by
  have := popK_more h (6 - m)
  rw [show m + (6 - m) = 6 by omega] at this
  rw [← this]
  rfl
/-- column k of the rows, the first i of them -/
def colK (xs : List Int) (k i : Nat) : Nat := ccnt (xs.take i) k
theorem colK_step {xs : List Int} {k i r : Nat} (hi : i < xs.length) (hx : xs[i]?.getD 0 = (r : Int)) : colK xs k (i + 1) = colK xs k i + r / 2 ^ k % 2 := by
  rw [List.getElem?_eq_getElem hi, Option.getD_some] at hx
  rw [colK, colK, List.take_succ_eq_append_getElem hi, ccnt, ccnt, List.countP_append, List.countP_singleton, hx, Int.toNat_natCast, bit_nat]
theorem colK_le (xs : List Int) (k i : Nat) : colK xs k i ≤ i := by
  have h := ccnt_le (xs.take i) k
  rw [List.length_take] at h
  rw [colK]
  omega
theorem colK_all (xs : List Int) (k : Nat) : colK xs k xs.length = ccnt xs k := by rw [colK, List.take_length]
theorem csum_step (k : Nat) (xs : List Int) : csum k xs ++ [((ccnt xs k : Nat) : Int)] = csum (k + 1) xs := by
  rw [csum, csum, List.range_succ, List.map_append]; rfl
theorem csum_len (k : Nat) (xs : List Int) : (csum k xs).length = k := by rw [csum, List.length_map, List.length_range]
theorem rsum_step' {xs : List Int} {k r : Nat} (hk : k < xs.length) (hx : xs[k]?.getD 0 = (r : Int)) : rsum (xs.take k) ++ [((pop r : Nat) : Int)] = rsum (xs.take (k + 1)) := by
  rw [List.getElem?_eq_getElem hk, Option.getD_some] at hx
  rw [rsum, rsum, List.take_succ_eq_append_getElem hk, List.map_append, hx]; rfl
theorem rsum_len (xs : List Int) : (rsum xs).length = xs.length := by rw [rsum, List.length_map]
end Go.Proofs.YtkcdoacojiilaaaGreat
