
/- Plain mathematics: the sums of an image's rows and columns. -/
import Derived.Test.YtjogfeichnkffaaMathB
namespace Go.Proofs.Ytjogfeichnkffaa

/-- how many of the bits below 6 are set -/
def pop (r : Nat) : Nat := (List.range 6).countP (fun j => r.testBit j)
/-- RowSums of a valid image -/
def rsum (xs : List Int) : List Int := xs.map (fun x => (pop x.toNat : Int))
def rSums (W : Int) (xs : List Int) : List Int := if okB W xs then rsum xs else []
/-- ColSums of a valid image -/
def ccnt (xs : List Int) (j : Nat) : Nat := xs.countP (fun x => x.toNat.testBit j)
def csum (m : Nat) (xs : List Int) : List Int := (List.range m).map (fun j => (ccnt xs j : Int))
def cSums (W : Int) (xs : List Int) : List Int := if okB W xs then csum W.toNat xs else []
/-- while they are counted: the rows before k, and the columns before j of row k -/
def cst (m : Nat) (xs : List Int) (k j : Nat) : List Int := (List.range m).map (fun c => (ccnt (xs.take k) c : Int) + if c < j then (if (xs[k]?.getD 0).toNat.testBit c then 1 else 0) else 0)

theorem cst_len (m : Nat) (xs : List Int) (k j : Nat) : (cst m xs k j).length = m := by simp [cst]
theorem cst_zero (m : Nat) (xs : List Int) : cst m xs 0 0 = List.replicate m 0 := by
  apply List.ext_getElem
  · simp [cst]
  · intro i h1 h2; simp [cst, ccnt]
theorem cst_next {m : Nat} {xs : List Int} {k : Nat} (hk : k < xs.length) : cst m xs k m = cst m xs (k + 1) 0 := by
  apply List.map_congr_left
  intro c hc
  have hc' : c < m := List.mem_range.1 hc
  have e1 : (if c < 0 then (if (xs[k + 1]?.getD 0).toNat.testBit c then (1 : Int) else 0) else 0) = 0 := if_neg (by omega)
  rw [if_pos hc', e1]
  simp only [ccnt, List.take_succ_eq_append_getElem hk, List.countP_append, List.countP_singleton, List.getElem?_eq_getElem hk, Option.getD_some]
  split <;> simp
theorem cst_done {m : Nat} {xs : List Int} : cst m xs xs.length 0 = csum m xs := by
  apply List.map_congr_left
  intro c _
  simp
theorem cst_get {m : Nat} {xs : List Int} {k j : Nat} (hj : j < m) : (cst m xs k j)[j]?.getD 0 = (ccnt (xs.take k) j : Int) := by simp [cst, hj]
theorem cst_set {m : Nat} {xs : List Int} {k j : Nat} : (cst m xs k j).set j ((ccnt (xs.take k) j : Int) + (if (xs[k]?.getD 0).toNat.testBit j then 1 else 0)) = cst m xs k (j + 1) := by
  apply List.ext_getElem
  · simp [cst]
  · intro i h1 h2
    rw [List.getElem_set]
    by_cases h : j = i
    · subst h; simp [cst]
    · rw [if_neg h]
      simp only [cst, List.getElem_map, List.getElem_range]
      have e : (i < j) ↔ (i < j + 1) := by omega
      simp only [e]
theorem ccnt_le (xs : List Int) (j : Nat) : ccnt xs j ≤ xs.length := List.countP_le_length
end Go.Proofs.Ytjogfeichnkffaa
