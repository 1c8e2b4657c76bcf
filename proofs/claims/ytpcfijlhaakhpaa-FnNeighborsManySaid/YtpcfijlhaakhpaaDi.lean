
/- Walks: drawn images of the laws on neighbors; images compared. -/
import Derived.Test.YtpcfijlhaakhpaaKe
import Derived.Test.YtpcfijlhaakhpaaKb
namespace Go.Proofs.Ytpcfijlhaakhpaa
open Go.RowKit
set_option maxRecDepth 100000

/-- A drawn image in new memory. -/
def DrawnImg (w : World) (e : Ending) (w' : World) : Prop :=
  ∃ (W : Int) (A : Option Addr) (n c : Nat) (xs : List Int), e = .returned (.agg #[.int .i64 W, .slice A n c]) ∧ n ≤ 6 ∧ Own w' w.heap.size A n xs ∧ Below w.heap.size w w'

set_option maxHeartbeats 2000000 in
theorem DrawImageNeighbors_c (A : Option Addr) (n c : Nat) (w : World) (hr : RdB w A n) (hn : n ≤ 1048576) (hc : n ≤ c) :
    Calls Try.prog 9 #[.slice A n c] w (DrawnImg w) := by
  go_enter Try.func9, Try.ntmps9
  go_wp2_with fail
  refine (l6Open_c A n c _ (hr.next (by (repeat (first | exact Below.refl _ _ | assumption | refine lo_alloc ?_ _ | refine lo_set ?_ (by simp; try omega) _ | refine Below.drew ?_ | refine below_drewN ?_ _ | refine lo_trans ?_ (by assumption) | refine lo_wr ?_ (by assumption) (by omega))))) hn hc).mono ?_
  rintro e w1 ⟨b, rfl, hr1, hb1⟩
  have hK1 : Blk w1 w.heap.size _ _ := (Blk.new w 25 #[.int .i64 0, .slice none 0 0]).next hb1
  have hB1 : Below w.heap.size w w1 := by (repeat (first | exact Below.refl _ _ | assumption | refine lo_alloc ?_ _ | refine lo_set ?_ (by simp; try omega) _ | refine Below.drew ?_ | refine below_drewN ?_ _ | refine lo_trans ?_ (by assumption) | refine lo_wr ?_ (by assumption) (by omega)))
  have hbl := hr1.1
  rw [World.size_alloc] at hbl
  clear hb1
  go_wp2_with fail
  refine (l91Wrong_c _ b 0 16 _ hr1 (by omega) (by omega) (by omega)).mono ?_
  rintro e w2 ⟨W, X, x, k, q, xs, rfl, h1, h2, h3, hX, hg2, _, _⟩
  have hK2 := hK1.grown hg2 (by intro e; injection e; omega)
  have hB2 := lo_grown hB1 hg2 (by rintro g ⟨⟩; omega)
  have hs1 := hB1.size
  have hw1 := hK1.lt
  have r0 := hK2.cell 0
  have r1 := hK2.cell 1
  have f0 := hK2.frozen 0
  have f1 := hK2.frozen 1
  obtain ⟨s0, s1, hB5⟩ := fin_cells hK2 hB2 (.int .i64 W) (.slice X x k)
  have s0' := Lib.hid s0; have s1' := Lib.hid s1; clear s0 s1
  go_wp2
  refine bodyPost_ret (v := .agg #[.int .i64 W, .slice X x k]) (by simp [results, Try.results9, go_sem, s0'.out, s1'.out]) rfl ⟨W, X, x, k, xs, rfl, h3, ?_, hB5⟩
  exact ((hX.far_lo (p := ⟨w.heap.size, 0, none⟩) (by simp; omega) _).far_lo (p := ⟨w.heap.size, 1, none⟩) (by simp; omega) _).mono hs1

set_option maxHeartbeats 1000000 in
theorem lsameImage_c (W V : Int) (A B : Option Addr) (n m c d : Nat) (xs ys : List Int) (w : World) (hr : Rd w A n xs) (hs : Rd w B m ys) (hn : n ≤ 1073741824) :
    Calls Try.prog 15 #[.agg #[.int .i64 W, .slice A n c], .agg #[.int .i64 V, .slice B m d]] w fun e w' => e = .returned (.bool (decide (W = V) && decide (xs = ys))) ∧ Below w.heap.size w w' := by
  by_cases h : W = V
  · have h' : (W == V) = true := beq_iff_eq.2 h
    have hh := Lib.hid h; clear h
    go_enter Try.func15, Try.ntmps15
    go_wp2_with fail
    refine (sameInts_c _ _ _ _ _ _ xs ys _ ((hr.alloc _).alloc _) ((hs.alloc _).alloc _) hn).mono ?_
    rintro e w1 ⟨rfl, hb⟩
    go_wp2
    go_ret
    exact ⟨ret_bool (by rw [hh.out]; simp), by (repeat (first | exact Below.refl _ _ | assumption | refine lo_alloc ?_ _ | refine lo_set ?_ (by simp; try omega) _ | refine Below.drew ?_ | refine below_drewN ?_ _ | refine lo_trans ?_ (by assumption) | refine lo_wr ?_ (by assumption) (by omega)))⟩
  · have h' : (W == V) = false := beq_eq_false_iff_ne.2 h
    have hh := Lib.hid h; clear h
    go_enter Try.func15, Try.ntmps15
    go_wp2
    go_ret
    exact ⟨ret_bool (by simp [hh.out]), by (repeat (first | exact Below.refl _ _ | assumption | refine lo_alloc ?_ _ | refine lo_set ?_ (by simp; try omega) _ | refine Below.drew ?_ | refine below_drewN ?_ _ | refine lo_trans ?_ (by assumption) | refine lo_wr ?_ (by assumption) (by omega)))⟩
end Go.Proofs.Ytpcfijlhaakhpaa
