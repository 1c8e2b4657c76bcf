
/- Walks: drawn images that may be invalid; drawn weights with an image. -/
import Derived.Test.YtjogfeichnkffaaDt
namespace Go.Proofs.Ytjogfeichnkffaa
open Go.RowKit
set_option maxRecDepth 100000

/-- A drawn image, valid or not. -/
def DrawnAny (w : World) (lo b p k : Nat) (e : Ending) (w' : World) : Prop :=
  ∃ (W : Int) (A : Option Addr) (n c q : Nat) (xs : List Int), e = .returned (.agg #[.int .i64 W, .slice A n c]) ∧ 0 ≤ W ∧ W ≤ 7 ∧ n ≤ 6 ∧ Own w' w.heap.size A n xs ∧ w.grownBy w' (some b) ∧ Rdr w' lo b q ∧ q ≤ p + k

/-- the end of a function that returns an image through its result's cells -/
theorem ret_cells {w wr : World} {lo b p : Nat} {v0 v1 : Value} (hK : Blk wr w.heap.size 27 #[v0, v1]) (hG : w.grownBy wr (some b)) (hR : Rdr wr lo b p) (hb : b < w.heap.size) (u0 u1 : Value) :
    (((wr.setCell ⟨w.heap.size, 0, none⟩ u0).setCell ⟨w.heap.size, 1, none⟩ u1).cell? ⟨w.heap.size, 0, none⟩ = some u0) ∧ (((wr.setCell ⟨w.heap.size, 0, none⟩ u0).setCell ⟨w.heap.size, 1, none⟩ u1).cell? ⟨w.heap.size, 1, none⟩ = some u1) ∧
    w.grownBy ((wr.setCell ⟨w.heap.size, 0, none⟩ u0).setCell ⟨w.heap.size, 1, none⟩ u1) (some b) ∧ Rdr ((wr.setCell ⟨w.heap.size, 0, none⟩ u0).setCell ⟨w.heap.size, 1, none⟩ u1) lo b p := by
  have h := (hK.set_ 0 u0).set_ 1 u1
  refine ⟨by rw [h.cell]; rfl, by rw [h.cell]; rfl, ?_, ?_⟩
  · exact grown_over (grown_over hG (grown_set _) (by rintro _ ⟨⟩; omega)) (grown_set _) (by rintro _ ⟨⟩; omega)
  · exact (hR.grown (grown_set _) (by omega)).grown (grown_set _) (by omega)

set_option maxHeartbeats 2000000 in
theorem l91Wrong_c (lo b p : Nat) (cells : Int) (w : World) (h : Rdr w lo b p) (hp : p ≤ 600000) (hc : 1 ≤ cells) (hc2 : cells ≤ 100) :
    Calls Try.prog 34 #[.pointer (some ⟨b, 0, none⟩), .int .i64 cells] w (DrawnAny w lo b p 70) := by
  have hbz := h.lt
  go_enter Try.func34, Try.ntmps34
  go_wp2_with fail
  refine (l91Image_c lo b p cells _ (h.next (by (repeat (first | exact Below.refl _ _ | assumption | refine lo_alloc ?_ _ | refine lo_set ?_ (by simp; try omega) _ | refine Below.drew ?_ | refine below_drewN ?_ _ | refine lo_trans ?_ (by assumption) | refine lo_wr ?_ (by assumption) (by omega))))) (by omega) hc hc2).mono ?_
  rintro e w1 ⟨a, m, g, q, f, rfl, ha1, ha2, hm1, hm2, hg, hk1, hg1, hr1, hq⟩
  have hK1 : Blk w1 w.heap.size _ _ := (Blk.new w 27 #[.int .i64 0, .slice none 0 0]).grown hg1 (by intro e; injection e; omega)
  have hz1 : w.heap.size + 1 ≤ w1.heap.size := by have := hg1.size; simp at this; omega
  have hgw : w.heap.size < g := by simp at hg; omega
  obtain ⟨o, ho⟩ : ∃ o, o = w1.heap.size := ⟨_, rfl⟩
  have hgo : g < o := by rw [ho]; exact hk1.lt
  obtain ⟨wz, hwz⟩ : ∃ wz, wz = w1.alloc (.cells #[.int .i64 m, .slice (some ⟨g, 0, none⟩) a a] 27) := ⟨_, rfl⟩
  have hO : Blk wz o 27 #[.int .i64 m, .slice (some ⟨g, 0, none⟩) a a] := by rw [hwz, ho]; exact Blk.new _ _ _
  have hI : Blk wz g 3 (ints (img f a m)) := by rw [hwz]; exact hk1.alloc _
  have hK : Blk wz w.heap.size 27 #[.int .i64 0, .slice none 0 0] := by rw [hwz]; exact hK1.alloc _
  have hG : w.grownBy wz (some b) := by rw [hwz]; exact grown_trans (grown_trans (grown_alloc _ _) hg1) (grown_alloc _ _)
  have hR : Rdr wz lo b q := by rw [hwz]; exact hr1.next (by (repeat (first | exact Below.refl _ _ | assumption | refine lo_alloc ?_ _ | refine lo_set ?_ (by simp; try omega) _ | refine Below.drew ?_ | refine below_drewN ?_ _ | refine lo_trans ?_ (by assumption) | refine lo_wr ?_ (by assumption) (by omega))))
  clear hg hk1 hg1 hr1 hK1
  go_wp2_with fail
  rw [← ho, ← hwz]
  have ho' := Lib.hid ho; clear ho
  have hwz' := Lib.hid hwz; clear hwz
  refine (pick_c lo b q _ _ hR (by omega)).mono ?_
  rintro e w2 ⟨x, rfl, hx, hg2, hr2⟩
  have hO2 := hO.grown hg2 (by intro e; injection e; omega)
  have hI2 := hI.grown hg2 (by intro e; injection e; omega)
  have hK2 := hK.grown hg2 (by intro e; injection e; omega)
  have hG2 := grown_trans hG hg2
  clear hO hI hK hG hR hg2 hx
  have o0 := hO2.cell 0
  have o1 := hO2.cell 1
  have p0 := hO2.frozen 0
  have p1 := hO2.frozen 1
  have r0 := hK2.cell 0
  have r1 := hK2.cell 1
  have f0 := hK2.frozen 0
  have f1 := hK2.frozen 1
  have hzo := hO2.lt
  have hzg := hI2.lt
  have hn0 : 0 < a := by omega
  by_cases x0 : x = 0
  · have x0' : ((x : Int) == 0) = true := by simp; omega
    clear x0
    have i0 := hI2.icell (k := 0) (by rw [img_len]; omega)
    have j0 := hI2.frozen 0
    have hpw := pow_int (j := m) (by omega)
    have hm60 : (m : Int) ≤ 60 := by omega
    have hm00 : (0 : Int) ≤ m := by omega
    have hI3 := hI2.iset 0 ((2 : Int) ^ m)
    have hK3 := hK2.far (p := ⟨g, 0, none⟩) (show w.heap.size ≠ g by omega) (.int .i64 ((2 : Int) ^ m))
    have hG3 := grown_over hG2 (grown_set (w := w2) (g := g) (k := 0) (.int .i64 ((2 : Int) ^ m))) (by rintro _ ⟨⟩; omega)
    have hR3 := hr2.grown (grown_set (w := w2) (g := g) (k := 0) (.int .i64 ((2 : Int) ^ m))) (by omega)
    have hO3 := hO2.far (p := ⟨g, 0, none⟩) (show o ≠ g by omega) (.int .i64 ((2 : Int) ^ m))
    obtain ⟨s0, s1, hG4, hR4⟩ := ret_cells hK3 hG3 hR3 hbz (.int .i64 m) (.slice (some ⟨g, 0, none⟩) a a)
    have hIf := Own.of_blk (lo := g) hI3 (Nat.le_refl _) (n := a) (by simp [img_len])
    have o0' := hO3.drew.cell 0
    have o1' := hO3.drew.cell 1
    have q0 := hK3.drew.cell 0
    have q1 := hK3.drew.cell 1
    have s0' := Lib.hid s0; have s1' := Lib.hid s1; clear s0 s1
    go_wp2
    refine region_tail 6 (by kernel_rfl) (by kernel_rfl) ?_
    simp only [List.take_succ_cons, List.take_zero, List.drop_succ_cons, List.drop_zero]
    repeat still_step
    still_call (still_of (l1Power_c _ _ hm00 hm60))
    repeat still_step
    refine wpStill_nil ?_
    go_wp2
    refine bodyPost_ret (v := .agg #[.int .i64 m, .slice (some ⟨g, 0, none⟩) a a]) (by simp [results, Try.results34, go_sem, s0'.out, s1'.out]) rfl ?_
    exact ⟨m, _, a, a, _, _, rfl, by omega, by omega, by omega, (((hIf.far_lo (p := ⟨w.heap.size, 0, none⟩) hgw _).far_lo (p := ⟨w.heap.size, 1, none⟩) hgw _).drew).mono (by omega), grown_trans hG4 (grown_drew _), hR4.next (Below.drew (Below.refl _ _)), by omega⟩
  have x0' : ((x : Int) == 0) = false := by simp; omega
  by_cases x1 : x = 1
  · have x1' : ((x : Int) == 1) = true := by simp; omega
    clear x0 x1
    have hn2 := (Below.refl w2.heap.size w2).alloc (Nat.le_refl _) (.cells #[.int .i64 0, .int .i64 7] 3)
    go_wp2_with fail
    refine (pick_c lo b _ _ _ (hr2.next hn2) (by omega)).mono ?_
    rintro e w4 ⟨x6, rfl, hx6, hg4, hr4⟩
    have hy6 := hx6 (by omega)
    have hO4 := (hO2.next hn2).grown hg4 (by intro e; injection e; omega)
    have hI4 := (hI2.next hn2).grown hg4 (by intro e; injection e; omega)
    have hK4 := (hK2.next hn2).grown hg4 (by intro e; injection e; omega)
    have hG4 := grown_trans (grown_trans hG2 (grown_alloc (.cells #[.int .i64 0, .int .i64 7] 3) _)) hg4
    have hk6 := (Blk.new w2 3 #[.int .i64 0, .int .i64 7]).grown hg4 (by intro e; injection e; omega)
    have ck := hk6.cell x6
    have hck : ∃ y : Int, 0 ≤ y ∧ y ≤ 7 ∧ (#[Value.int .i64 0, Value.int .i64 7] : Array Value)[x6]? = some (.int .i64 y) := by
      rcases (show x6 = 0 ∨ x6 = 1 by omega) with rfl | rfl
      · exact ⟨0, by omega, by omega, rfl⟩
      · exact ⟨7, by omega, by omega, rfl⟩
    obtain ⟨y, hy0, hy7, hy⟩ := hck
    rw [hy] at ck
    clear hy hk6 hx6 o0 o1 p0 p1 r0 r1 f0 f1 hO2 hI2 hK2 hG2 hr2
    have hK3 := hK4.far (p := ⟨o, 0, none⟩) (show w.heap.size ≠ o by omega) (.int .i64 y)
    have hG3 := grown_over hG4 (grown_set (w := w4) (g := o) (k := 0) (.int .i64 y)) (by rintro _ ⟨⟩; omega)
    have hR3 := hr4.grown (grown_set (g := o) (k := 0) (.int .i64 y)) (by omega)
    have hO3 := hO4.set_ 0 (.int .i64 y)
    obtain ⟨s0, s1, hG5, hR5⟩ := ret_cells hK3 hG3 hR3 hbz (.int .i64 y) (.slice (some ⟨g, 0, none⟩) a a)
    have hIf := (Own.of_blk (lo := g) hI4 (Nat.le_refl _) (n := a) (img_len _ _ _)).far (p := ⟨o, 0, none⟩) (by rintro _ ⟨⟩; simp; omega) (.int .i64 y)
    have s0' := Lib.hid s0; have s1' := Lib.hid s1; clear s0 s1
    have o0 := hO4.cell 0
    have o1 := hO4.cell 1
    have p0 := hO4.frozen 0
    have o0' := hO3.cell 0
    have o1' := hO3.cell 1
    have q0 := hK3.cell 0
    have q1 := hK3.cell 1
    have y0 := hK4.frozen 0
    have y1 := hK4.frozen 1
    have hne : ¬ o = w.heap.size := by omega
    go_wp2
    refine bodyPost_ret (v := .agg #[.int .i64 y, .slice (some ⟨g, 0, none⟩) a a]) (by simp [results, Try.results34, go_sem, s0'.out, s1'.out]) rfl ?_
    exact ⟨y, _, a, a, _, _, rfl, hy0, hy7, by omega, ((hIf.far_lo (p := ⟨w.heap.size, 0, none⟩) hgw _).far_lo (p := ⟨w.heap.size, 1, none⟩) hgw _).mono (by omega), hG5, hR5, by omega⟩
  have x1' : ((x : Int) == 1) = false := by simp; omega
  by_cases x2 : x = 2
  · have x2' : ((x : Int) == 2) = true := by simp; omega
    clear x0 x1 x2
    have hwo : w.heap.size < o := by omega
    have hK3 := (hK2.far (p := ⟨o, 1, none⟩) (show w.heap.size ≠ o by omega) (.slice (some ⟨w2.heap.size, 0, none⟩) 0 0)).alloc (.cells #[] 3)
    have hG3 := grown_trans (grown_over hG2 (grown_set (w := w2) (g := o) (k := 1) (.slice (some ⟨w2.heap.size, 0, none⟩) 0 0)) (by rintro _ ⟨⟩; omega)) (grown_alloc (.cells #[] 3) _)
    have hR3 := (hr2.grown (grown_set (g := o) (k := 1) (.slice (some ⟨w2.heap.size, 0, none⟩) 0 0)) (by omega)).next ((Below.refl _ _).alloc (Nat.le_refl _) (.cells #[] 3))
    have hO3 := (hO2.set_ 1 (.slice (some ⟨w2.heap.size, 0, none⟩) 0 0)).alloc (.cells #[] 3)
    have ⟨s0, s1, hG4, hR4⟩ := ret_cells hK3 hG3 hR3 hbz (.int .i64 m) (.slice (some ⟨w2.heap.size, 0, none⟩) 0 0)
    have s0' := Lib.hid s0; have s1' := Lib.hid s1; clear s0 s1
    have o0' := hO3.cell 0
    have q0 := hK3.cell 0
    have q1 := hK3.cell 1
    have y0 := hK3.frozen 0
    have y1 := hK3.frozen 1
    have hne : ¬ o = w.heap.size := by omega
    go_wp2
    refine bodyPost_ret (v := .agg #[.int .i64 m, .slice (some ⟨w2.heap.size, 0, none⟩) 0 0]) (by simp [results, Try.results34, go_sem, s0'.out, s1'.out]) rfl ?_
    exact ⟨m, _, 0, 0, _, [], rfl, by omega, by omega, by omega, Own.nil_ _ _ _, hG4, hR4, by omega⟩
  have x2' : ((x : Int) == 2) = false := by simp; omega
  by_cases x3 : x = 3
  · have x3' : ((x : Int) == 3) = true := by simp; omega
    clear x0 x1 x2 x3
    have i0 := hI2.icell (k := 0) (by rw [img_len]; omega)
    have j0 := hI2.frozen 0
    have hI3 := (hI2.iset 0 (-1))
    have hK3 := hK2.far (p := ⟨g, 0, none⟩) (show w.heap.size ≠ g by omega) (.int .i64 (-1))
    have hG3 := grown_over hG2 (grown_set (w := w2) (g := g) (k := 0) (.int .i64 (-1))) (by rintro _ ⟨⟩; omega)
    have hR3 := hr2.grown (grown_set (w := w2) (g := g) (k := 0) (.int .i64 (-1))) (by omega)
    have hO3 := hO2.far (p := ⟨g, 0, none⟩) (show o ≠ g by omega) (.int .i64 (-1))
    obtain ⟨s0, s1, hG4, hR4⟩ := ret_cells hK3 hG3 hR3 hbz (.int .i64 m) (.slice (some ⟨g, 0, none⟩) a a)
    have hIf := Own.of_blk (lo := g) (n := a) hI3 (Nat.le_refl _) (by simp [img_len])
    have o0' := hO3.cell 0
    have o1' := hO3.cell 1
    have q0 := hK3.cell 0
    have q1 := hK3.cell 1
    have s0' := Lib.hid s0; have s1' := Lib.hid s1; clear s0 s1
    go_wp2
    refine bodyPost_ret (v := .agg #[.int .i64 m, .slice (some ⟨g, 0, none⟩) a a]) (by simp [results, Try.results34, go_sem, s0'.out, s1'.out]) rfl ?_
    exact ⟨m, _, a, a, _, _, rfl, by omega, by omega, by omega, ((hIf.far_lo (p := ⟨w.heap.size, 0, none⟩) hgw _).far_lo (p := ⟨w.heap.size, 1, none⟩) hgw _).mono (by omega), hG4, hR4, by omega⟩
  have x3' : ((x : Int) == 3) = false := by simp; omega
  clear x0 x1 x2 x3
  obtain ⟨s0, s1, hG4, hR4⟩ := ret_cells hK2 hG2 hr2 hbz (.int .i64 m) (.slice (some ⟨g, 0, none⟩) a a)
  have hIf := Own.of_blk (lo := g) hI2 (Nat.le_refl _) (img_len _ _ _)
  have s0' := Lib.hid s0; have s1' := Lib.hid s1; clear s0 s1
  go_wp2
  refine bodyPost_ret (v := .agg #[.int .i64 m, .slice (some ⟨g, 0, none⟩) a a]) (by simp [results, Try.results34, go_sem, r0, r1]) rfl ?_
  exact ⟨m, _, a, a, _, _, rfl, by omega, by omega, by omega, ((hIf.far_lo (p := ⟨w.heap.size, 0, none⟩) hgw _).far_lo (p := ⟨w.heap.size, 1, none⟩) hgw _).mono (by omega), hG4, hR4, by omega⟩
end Go.Proofs.Ytjogfeichnkffaa
