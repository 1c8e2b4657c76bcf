
/- Walks: drawn images of the laws on reached images. -/
import Derived.Test.YtjogfeichnkffaaDi
namespace Go.Proofs.Ytjogfeichnkffaa
open Go.RowKit
set_option maxRecDepth 100000

set_option maxHeartbeats 2000000 in
theorem DrawNeighborReach_c (A : Option Addr) (n c : Nat) (w : World) (hr : RdB w A n) (hn : n ≤ 1048576) (hc : n ≤ c) :
    Calls Try.prog 16 #[.slice A n c] w (DrawnImg w) := by
  go_enter Try.func16, Try.ntmps16
  go_wp2_with fail
  refine (l6Open_c A n c _ (hr.next (by (repeat (first | exact Below.refl _ _ | assumption | refine lo_alloc ?_ _ | refine lo_set ?_ (by simp; try omega) _ | refine Below.drew ?_ | refine below_drewN ?_ _ | refine lo_trans ?_ (by assumption) | refine lo_wr ?_ (by assumption) (by omega))))) hn hc).mono ?_
  rintro e w1 ⟨b, rfl, hr1, hb1⟩
  have hK1 : Blk w1 w.heap.size _ _ := (Blk.new w 27 #[.int .i64 0, .slice none 0 0]).next hb1
  have hB1 : Below w.heap.size w w1 := by (repeat (first | exact Below.refl _ _ | assumption | refine lo_alloc ?_ _ | refine lo_set ?_ (by simp; try omega) _ | refine Below.drew ?_ | refine below_drewN ?_ _ | refine lo_trans ?_ (by assumption) | refine lo_wr ?_ (by assumption) (by omega)))
  have hbl := hr1.1
  rw [World.size_alloc] at hbl
  clear hb1
  go_wp2_with fail
  refine (pick_c _ b 0 _ _ hr1 (by omega)).mono ?_
  rintro e w5 ⟨v, rfl, hv, hg5, hr5⟩
  have hK5 := hK1.grown hg5 (by intro e; injection e; omega)
  have hB5 := lo_grown hB1 hg5 (by rintro g ⟨⟩; omega)
  have hv2 := hv (by omega)
  have hbl5 := hg5.size
  clear hK1 hB1 hr1 hg5 hv
  by_cases hz : v = 0
  all_goals
    have hz1 : ((v : Int) == 0) = decide (v = 0) := by by_cases h : v = 0 <;> simp [h]
    have hz2 : ((v : Int) = 0) ↔ v = 0 := by omega
    simp only [hz] at hz1 hz2
    try subst hz
    go_wp2_with fail
    refine (l91Wrong_c _ b _ _ _ hr5 (by omega) (by omega) (by omega)).mono ?_
    rintro e w2 ⟨W, X, x, k, q, xs, rfl, h1, h2, h3, hX, hg2, _, _⟩
    have hK2 := hK5.grown hg2 (by intro e; injection e; omega)
    have hB2 := lo_grown hB5 hg2 (by rintro g ⟨⟩; omega)
    have hs1 := hB5.size
    have hw1 := hK5.lt
    have r0 := hK2.cell 0
    have r1 := hK2.cell 1
    have f0 := hK2.frozen 0
    have f1 := hK2.frozen 1
    obtain ⟨s0, s1, hB6⟩ := fin_cells hK2 hB2 (.int .i64 W) (.slice X x k)
    have s0' := Lib.hid s0; have s1' := Lib.hid s1; clear s0 s1
    go_wp2
    refine bodyPost_ret (v := .agg #[.int .i64 W, .slice X x k]) (by simp [results, Try.results16, go_sem, s0'.out, s1'.out]) rfl ⟨W, X, x, k, xs, rfl, h3, ?_, hB6⟩
    exact ((hX.far_lo (p := ⟨w.heap.size, 0, none⟩) (by simp; omega) _).far_lo (p := ⟨w.heap.size, 1, none⟩) (by simp; omega) _).mono hs1
end Go.Proofs.Ytjogfeichnkffaa
