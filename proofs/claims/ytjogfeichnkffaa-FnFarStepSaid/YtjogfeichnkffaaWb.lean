
/- Walks: the program's weights. -/
import Derived.Test.YtjogfeichnkffaaWa
import Derived.Test.YtjogfeichnkffaaMath
import Derived.RegionTactic
namespace Go.Proofs.Ytjogfeichnkffaa
open Go.RowKit

theorem wIn_all {p : List Int} (h : ∀ k, k < p.length → -99 ≤ p[k]?.getD 0 ∧ p[k]?.getD 0 ≤ 99) : p.all (fun x => decide (-99 ≤ x) && decide (x ≤ 99)) = true := by
  simp only [List.all_eq_true, Bool.and_eq_true, decide_eq_true_eq]
  intro x hx
  obtain ⟨i, hi, rfl⟩ := List.getElem_of_mem hx
  simpa [List.getElem?_eq_getElem hi] using h i hi
theorem wIn_no {p : List Int} {k : Nat} (hk : k < p.length) (h : ¬ (-99 ≤ p[k]?.getD 0 ∧ p[k]?.getD 0 ≤ 99)) : wIn p = false := by
  cases e : wIn p with
  | false => rfl
  | true => exact absurd (wIn_at e k hk) h
theorem wIn_eq {p : List Int} (h : ∀ k, k < p.length → -99 ≤ p[k]?.getD 0 ∧ p[k]?.getD 0 ≤ 99) : wIn p = (decide (1 ≤ p.length) && decide (p.length ≤ 6)) := by
  simp [wIn, wIn_all h]

set_option maxHeartbeats 400000 in
theorem emptyImage_c (h m : Nat) (w : World) (hh : h ≤ 1073741824) :
    Calls Try.prog 35 #[.int .i64 h, .int .i64 m] w fun e w' => ∃ g, e = .returned (.agg #[.int .i64 m, .slice (some ⟨g, 0, none⟩) h h]) ∧ Below w.heap.size w w' ∧ Blk w' g 3 (ints (List.replicate h 0)) ∧ w.heap.size ≤ g ∧ g < w'.heap.size := by
  have hmk := make_row h hh
  go_enter Try.func35, Try.ntmps35
  go_wp2
  refine bodyPost_ret (v := .agg #[.int .i64 m, .slice (some ⟨w.heap.size + 1, 0, none⟩) h h]) (by simp [results, Try.results35, go_sem]) rfl ⟨_, rfl, ?_, ?_, by omega, by simp⟩
  · (repeat (first | exact Below.refl _ _ | assumption | refine lo_alloc ?_ _ | refine lo_set ?_ (by simp; try omega) _ | refine Below.drew ?_ | refine below_drewN ?_ _ | refine lo_trans ?_ (by assumption) | refine lo_wr ?_ (by assumption) (by omega)))
  · rw [← made_ints]
    exact heap_at2 _ _ _ _

set_option maxHeartbeats 400000 in
theorem flip_c (g n c i j r : Nat) (xs : List Int) (W : Int) (w : World) (hb : Blk w g 3 (ints xs)) (hi : i < n) (hx : i < xs.length) (hj : j < 6) (hr : r < 64) (hc : xs[i]?.getD 0 = (r : Int)) :
    Calls Try.prog 38 #[.agg #[.int .i64 W, .slice (some ⟨g, 0, none⟩) n c], .int .i64 i, .int .i64 j] w fun e w' => e = .returned (.tuple #[]) ∧ Blk w' g 3 (ints (xs.set i ((r ^^^ 2 ^ j : Nat) : Int))) ∧ w.grownBy w' (some g) := by
  have hcc := hb.icell hx
  have hff := hb.frozen i
  have hz := hb.lt
  have hp := pow_int (j := j) (by omega)
  have hp' := pow_le64 (j := j) (by omega)
  have hw : wrap64 (2 ^ j) = 2 ^ j := IntWalk.wrap64_in _ (by omega)
  have hX := Lib.hid (show bits .xor .i64 (r : Int) (2 ^ j) = ((r ^^^ 2 ^ j : Nat) : Int) from by
    rw [← i64_xor_nat r (2 ^ j) (by omega) (by omega)]; simp)
  rw [hc] at hcc
  have hs := Lib.hid (hb.iset i ((r ^^^ 2 ^ j : Nat) : Int))
  clear hc
  go_enter Try.func38, Try.ntmps38
  go_wp2
  go_region
  all_goals go_end0
  all_goals rw [hX.out]
  all_goals exact ⟨rfl, Blk.drew (Blk.alloc hs.out _), grown_trans (grown_trans (grown_set _) (grown_alloc _ _)) (grown_drew _)⟩

theorem wW_no {p q : List Int} (h : wOk p q = false) : wW p q = 0 ∧ wX p q = [] := by simp [wW, wX, h]
theorem wW_yes {p q : List Int} (h : wOk p q = true) : wW p q = q.length ∧ wX p q = img (wF p q) p.length q.length := by simp [wW, wX, h]

/-- what lies in memory while an image is filled: the result's cells, the image's, its rows -/
def WInv (w wr : World) (o g n m : Nat) (xs : List Int) : Prop :=
  Below w.heap.size w wr ∧ Blk wr w.heap.size 27 #[.int .i64 0, .slice none 0 0] ∧ Blk wr o 27 #[.int .i64 m, .slice (some ⟨g, 0, none⟩) n n] ∧ Blk wr g 3 (ints xs)
theorem WInv.step {w wr w3 : World} {o g n m : Nat} {xs ys : List Int} (h : WInv w wr o g n m xs) (h1 : w.heap.size < g) (h2 : g ≠ o) (hg : wr.grownBy w3 (some g)) (hb : Blk w3 g 3 (ints ys)) : WInv w w3 o g n m ys :=
  ⟨lo_grown h.1 hg (by rintro _ ⟨⟩; omega), h.2.1.grown hg (by intro e; injection e; omega), h.2.2.1.grown hg (by intro e; injection e; omega), hb⟩
theorem WInv.cells {w wr : World} {o g n m : Nat} {xs : List Int} (h : WInv w wr o g n m xs) :
    wr.cell? ⟨w.heap.size, 0, none⟩ = some (.int .i64 0) ∧ wr.cell? ⟨w.heap.size, 1, none⟩ = some (.slice none 0 0) ∧ wr.frozen? ⟨w.heap.size, 0, none⟩ = false ∧ wr.frozen? ⟨w.heap.size, 1, none⟩ = false ∧
    wr.cell? ⟨o, 0, none⟩ = some (.int .i64 m) ∧ wr.cell? ⟨o, 1, none⟩ = some (.slice (some ⟨g, 0, none⟩) n n) :=
  ⟨h.2.1.cell 0, h.2.1.cell 1, h.2.1.frozen 0, h.2.1.frozen 1, h.2.2.1.cell 0, h.2.2.1.cell 1⟩

end Go.Proofs.Ytjogfeichnkffaa
