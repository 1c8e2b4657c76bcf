
/- Walks: drawn images that are often unique. -/
import Derived.Test.YtbhpiefpmagkbaaDi
namespace Go.Proofs.Ytbhpiefpmagkbaa
open Go.RowKit
set_option maxRecDepth 100000

set_option maxHeartbeats 2000000 in
theorem DrawImageUnique_c (A : Option Addr) (n c : Nat) (w : World) (hr : RdB w A n) (hn : n ≤ 1048576) (hc : n ≤ c) :
    Calls Try.prog 34 #[.slice A n c] w (DrawnImg w) := by
  go_enter Try.func34, Try.ntmps34
  go_wp2_with fail
  refine (l6Open_c A n c _ (hr.next (by (repeat (first | exact Below.refl _ _ | assumption | refine lo_alloc ?_ _ | refine lo_set ?_ (by simp; try omega) _ | refine Below.drew ?_ | refine below_drewN ?_ _ | refine lo_trans ?_ (by assumption) | refine lo_wr ?_ (by assumption) (by omega))))) hn hc).mono ?_
  rintro e w1 ⟨b, rfl, hr1, hb1⟩
  have hK1 : Blk w1 w.heap.size _ _ := (Blk.new w 28 #[.int .i64 0, .slice none 0 0]).next hb1
  have hB1 : Below w.heap.size w w1 := by (repeat (first | exact Below.refl _ _ | assumption | refine lo_alloc ?_ _ | refine lo_set ?_ (by simp; try omega) _ | refine Below.drew ?_ | refine below_drewN ?_ _ | refine lo_trans ?_ (by assumption) | refine lo_wr ?_ (by assumption) (by omega)))
  have hbl := hr1.1
  rw [World.size_alloc] at hbl
  clear hb1
  go_wp2_with fail
  refine (pick_c _ b 0 _ _ hr1 (by omega)).mono ?_
  rintro e w5 ⟨v, rfl, hv, hg5, hr5⟩
  have hK5 := hK1.grown hg5 (by intro e; injection e; omega)
  have hB5 := lo_grown hB1 hg5 (by rintro g ⟨⟩; omega)
  have hv2 := hv (by omega)
  have hbl5 := hg5.size
  clear hK1 hB1 hr1 hg5 hv
  by_cases hz : v = 0
  · subst hz
    go_wp2_with fail
    refine (l91Nested_c _ b _ _ _ hr5 (by omega) (by omega) (by omega)).mono ?_
    rintro e w2 ⟨h, m, g, q, f, rfl, h1, h2, h3, h4, hge, hX, hg2, _, _⟩
    have hX2 : Own w2 w5.heap.size (some ⟨g, 0, none⟩) h (img f h m) := Own.of_blk hX hge (img_len _ _ _)
    have hK2 := hK5.grown hg2 (by intro e; injection e; omega)
    have hB2 := lo_grown hB5 hg2 (by rintro g ⟨⟩; omega)
    have hs1 := hB5.size
    have hw1 := hK5.lt
    have r0 := hK2.cell 0
    have r1 := hK2.cell 1
    have f0 := hK2.frozen 0
    have f1 := hK2.frozen 1
    obtain ⟨s0, s1, hB6⟩ := fin_cells hK2 hB2 (.int .i64 (m : Int)) (.slice (some ⟨g, 0, none⟩) h h)
    have s0' := Lib.hid s0; have s1' := Lib.hid s1; clear s0 s1
    go_wp2
    refine bodyPost_ret (v := .agg #[.int .i64 (m : Int), .slice (some ⟨g, 0, none⟩) h h]) (by simp [results, Try.results34, go_sem, s0'.out, s1'.out]) rfl ⟨m, _, h, h, img f h m, rfl, h2, ?_, hB6⟩
    exact ((hX2.far_lo (p := ⟨w.heap.size, 0, none⟩) (by simp; omega) _).far_lo (p := ⟨w.heap.size, 1, none⟩) (by simp; omega) _).mono hs1
  · have hz1 : ((v : Int) == 0) = false := by rw [beq_eq_false_iff_ne]; omega
    go_wp2_with fail
    refine (l91Wrong_c _ b _ _ _ hr5 (by omega) (by omega) (by omega)).mono ?_
    rintro e w2 ⟨W, X, x, k, q, xs, rfl, h1, h2, h3, hX, hg2, _, _⟩
    have hK2 := hK5.grown hg2 (by intro e; injection e; omega)
    have hB2 := lo_grown hB5 hg2 (by rintro g ⟨⟩; omega)
    have hs1 := hB5.size
    have hw1 := hK5.lt
    have r0 := hK2.cell 0
    have r1 := hK2.cell 1
    have f0 := hK2.frozen 0
    have f1 := hK2.frozen 1
    obtain ⟨s0, s1, hB6⟩ := fin_cells hK2 hB2 (.int .i64 W) (.slice X x k)
    have s0' := Lib.hid s0; have s1' := Lib.hid s1; clear s0 s1
    go_wp2
    refine bodyPost_ret (v := .agg #[.int .i64 W, .slice X x k]) (by simp [results, Try.results34, go_sem, s0'.out, s1'.out]) rfl ⟨W, X, x, k, xs, rfl, h3, ?_, hB6⟩
    exact ((hX.far_lo (p := ⟨w.heap.size, 0, none⟩) (by simp; omega) _).far_lo (p := ⟨w.heap.size, 1, none⟩) (by simp; omega) _).mono hs1

set_option maxHeartbeats 2000000 in
theorem DrawWeightsOf_c (A : Option Addr) (n c : Nat) (w : World) (hr : RdB w A n) (hn : n ≤ 1048576) (hc : n ≤ c) :
    Calls Try.prog 17 #[.slice A n c] w (DrawnImg w) := by
  go_enter Try.func17, Try.ntmps17
  go_wp2_with fail
  refine (DrawImageUnique_c A n c _ (hr.next (by (repeat (first | exact Below.refl _ _ | assumption | refine lo_alloc ?_ _ | refine lo_set ?_ (by simp; try omega) _ | refine Below.drew ?_ | refine below_drewN ?_ _ | refine lo_trans ?_ (by assumption) | refine lo_wr ?_ (by assumption) (by omega))))) hn hc).mono ?_
  rintro e w1 ⟨W, X, x, k, xs, rfl, h3, hX, hb1⟩
  have hK2 : Blk w1 w.heap.size _ _ := (Blk.new w 28 #[.int .i64 0, .slice none 0 0]).next hb1
  have hB2 : Below w.heap.size w w1 := by (repeat (first | exact Below.refl _ _ | assumption | refine lo_alloc ?_ _ | refine lo_set ?_ (by simp; try omega) _ | refine Below.drew ?_ | refine below_drewN ?_ _ | refine lo_trans ?_ (by assumption) | refine lo_wr ?_ (by assumption) (by omega)))
  rw [World.size_alloc] at hX
  clear hb1
  have r0 := hK2.cell 0
  have r1 := hK2.cell 1
  have f0 := hK2.frozen 0
  have f1 := hK2.frozen 1
  obtain ⟨s0, s1, hB6⟩ := fin_cells hK2 hB2 (.int .i64 W) (.slice X x k)
  have s0' := Lib.hid s0; have s1' := Lib.hid s1; clear s0 s1
  go_wp2
  refine bodyPost_ret (v := .agg #[.int .i64 W, .slice X x k]) (by simp [results, Try.results17, go_sem, s0'.out, s1'.out]) rfl ⟨W, X, x, k, xs, rfl, h3, ?_, hB6⟩
  exact ((hX.far_lo (p := ⟨w.heap.size, 0, none⟩) (by simp) _).far_lo (p := ⟨w.heap.size, 1, none⟩) (by simp) _).mono (by omega)
end Go.Proofs.Ytbhpiefpmagkbaa
