
/- Plain: no more images are reached than there are images with the row sums. -/
import Derived.Test.YtnbaedpckdefgaaMathW
import Derived.Test.YtnbaedpckdefgaaCa
namespace Go.Proofs.Ytnbaedpckdefgaa

theorem prodN_head (n : Nat) (F : Nat → Nat) : prodN (n + 1) F = F 0 * prodN n (fun i => F (i + 1)) := by
  induction n with
  | zero => simp [prodN]
  | succ n ih =>
    rw [show prodN (n + 1 + 1) F = prodN (n + 1) F * F (n + 1) from rfl, ih, show prodN (n + 1) (fun i => F (i + 1)) = prodN n (fun i => F (i + 1)) * F (n + 1) from rfl, Nat.mul_assoc]
def rowsOf (m : Nat) (r : Int) : List Int := ((List.range (2 ^ m)).filter (fun x => decide ((pop x : Int) = r))).map (fun (x : Nat) => (x : Int))
theorem rowsOf_len (m : Nat) (r : Int) : (rowsOf m r).length = rowCnt r (2 ^ m) := by
  rw [rowsOf, List.length_map, rowCnt, List.countP_eq_length_filter]
/-- all images with these row sums -/
def imgsOf (m : Nat) : List Int → List (List Int)
  | [] => [[]]
  | r :: rs => (rowsOf m r).flatMap (fun x => (imgsOf m rs).map (fun l => x :: l))
theorem flatMap_const_len {α β : Type} {f : α → List β} {c : Nat} : ∀ (l : List α), (∀ x, (f x).length = c) → (l.flatMap f).length = l.length * c
  | [], _ => by simp
  | x :: l, h => by rw [List.flatMap_cons, List.length_append, h x, flatMap_const_len l h, List.length_cons, Nat.succ_mul, Nat.add_comm]
theorem imgsOf_len (m : Nat) : ∀ rs : List Int, (imgsOf m rs).length = cAll m rs rs.length
  | [] => rfl
  | r :: rs => by
    rw [imgsOf, flatMap_const_len (c := (imgsOf m rs).length) _ (fun x => by rw [List.length_map]), rowsOf_len, imgsOf_len m rs, cAll, cAll, List.length_cons, prodN_head]
    rfl
theorem imgsOf_mem (m : Nat) : ∀ ys : List Int, (∀ y ∈ ys, 0 ≤ y ∧ y.toNat < 2 ^ m) → ys ∈ imgsOf m (ys.map (fun x => (pop x.toNat : Int)))
  | [], _ => by simp [imgsOf]
  | y :: ys, h => by
    have h1 := h y (List.mem_cons_self ..)
    have h2 := imgsOf_mem m ys (fun z hz => h z (List.mem_cons_of_mem _ hz))
    simp only [List.map_cons, imgsOf, List.mem_flatMap, List.mem_map]
    refine ⟨y, ?_, ys, h2, rfl⟩
    simp only [rowsOf, List.mem_map, List.mem_filter, List.mem_range, decide_eq_true_eq]
    exact ⟨y.toNat, ⟨h1.2, rfl⟩, by omega⟩
theorem reach_less {m : Nat} {xs : List Int} (h : okB (m : Int) xs = true) : (reach m xs).length ≤ cAll m (rSums (m : Int) xs) xs.length := by
  have e : rSums (m : Int) xs = rsum xs := by simp [rSums, h]
  have h1 := nodup_sub (l' := imgsOf m (rsum xs)) (reach_nodup m xs) (fun y hy => by
    obtain ⟨f, hf, rfl⟩ := List.mem_map.1 hy
    have hp := reach_path hf
    have h2 := path_ok h hp
    have h3 := (path_sums h hp).1
    simp only [rSums, h, h2.1, if_true] at h3
    rw [← h3]
    exact imgsOf_mem m _ (okB_cells h2.1))
  rw [imgsOf_len, List.length_map] at h1
  rw [e]
  have h4 : (rsum xs).length = xs.length := by simp [rsum]
  rwa [h4] at h1
theorem rSums_in {m : Nat} {xs : List Int} (h : okB (m : Int) xs = true) : sIn (m : Int) (rSums (m : Int) xs) = true := by
  have hb := okB_bd h
  have e : rSums (m : Int) xs = rsum xs := by simp [rSums, h]
  rw [e]
  refine sIn_yes (by simp [rsum]; omega) (by simp [rsum]; omega) (allIn_of fun k hk => ?_)
  have hk' : k < xs.length := by simpa [rsum] using hk
  obtain ⟨r, h1, h2⟩ := okB_cell h hk'
  simp only [List.getElem?_eq_getElem hk', Option.getD_some] at h1
  have h3 : pop r ≤ m := by
    rw [pop_sumN (by omega) h2]
    have := sumN_le_mul (n := m) (c := 1) (F := fun j => b1 (r.testBit j)) (fun j _ => b1_le _)
    omega
  simp only [rsum, List.getElem?_map, List.getElem?_eq_getElem hk', Option.map_some, Option.getD_some, h1, Int.toNat_natCast]
  omega
end Go.Proofs.Ytnbaedpckdefgaa
