
/- Walks: the two drawn images of the laws on how far images are. -/
import Derived.Test.YtjogfeichnkffaaDp
namespace Go.Proofs.Ytjogfeichnkffaa
open Go.RowKit
set_option maxRecDepth 100000

/-- Two drawn images. -/
def DrawnTwo (w : World) (e : Ending) (w' : World) : Prop :=
  ∃ (W : Int) (X : Option Addr) (x x' : Nat) (xs : List Int) (V : Int) (Y : Option Addr) (y y' : Nat) (ys : List Int), e = .returned (.tuple #[.agg #[.int .i64 W, .slice X x x'], .agg #[.int .i64 V, .slice Y y y']]) ∧ x ≤ 6 ∧ y ≤ 6 ∧
    Rd w' X x xs ∧ Rd w' Y y ys ∧ Below w.heap.size w w'

set_option maxHeartbeats 2000000 in
theorem DrawNeighborFar_c (A : Option Addr) (n c : Nat) (w : World) (hr : RdB w A n) (hn : n ≤ 1048576) (hc : n ≤ c) :
    Calls Try.prog 20 #[.slice A n c] w (DrawnTwo w) := by
  have hA0 := (Blk.new w 27 #[.int .i64 0, .slice none 0 0]).alloc (.cells #[.int .i64 0, .slice none 0 0] 27)
  have hC0 := heap_at2 w (.cells #[.int .i64 0, .slice none 0 0] 27) 27 #[.int .i64 0, .slice none 0 0]
  have hL0 := lo_alloc (lo_alloc (Below.refl w.heap.size w) (.cells #[.int .i64 0, .slice none 0 0] 27)) (.cells #[.int .i64 0, .slice none 0 0] 27)
  have hz0 : ((w.alloc (.cells #[.int .i64 0, .slice none 0 0] 27)).alloc (.cells #[.int .i64 0, .slice none 0 0] 27)).heap.size = w.heap.size + 2 := by simp
  have hr0 := hr.next hL0
  go_enter Try.func20, Try.ntmps20
  go_wp2_with fail
  generalize (w.alloc (.cells #[.int .i64 0, .slice none 0 0] 27)).alloc (.cells #[.int .i64 0, .slice none 0 0] 27) = w0 at hA0 hC0 hL0 hz0 hr0 ⊢
  refine (l6Open_c A n c _ hr0 hn hc).mono ?_
  rintro e w1 ⟨b, rfl, hr1, hb1⟩
  have hA1 := hA0.next hb1
  have hC1 := hC0.next hb1
  have hL1 := lo_trans hL0 hb1
  have hbl := hr1.1
  have hs1 := hb1.size
  clear hA0 hC0 hL0 hb1
  go_wp2_with fail
  refine (l91Two_c _ b 0 12 _ hr1 (by omega) (by omega) (by omega)).mono ?_
  rintro e w2 ⟨W, X, x, x', xs, V, Y, y, y', ys, q, rfl, hx6, hy6, hX, hY, hg2, _⟩
  have hA2 := ((hA1.grown hg2 (by intro e; injection e; omega)).alloc (.cells #[.int .i64 W, .slice X x x'] 27)).alloc (.cells #[.int .i64 V, .slice Y y y'] 27)
  have hC2 := ((hC1.grown hg2 (by intro e; injection e; omega)).alloc (.cells #[.int .i64 W, .slice X x x'] 27)).alloc (.cells #[.int .i64 V, .slice Y y y'] 27)
  have hL2 := lo_alloc (lo_alloc (lo_grown hL1 hg2 (by rintro g ⟨⟩; omega)) (.cells #[.int .i64 W, .slice X x x'] 27)) (.cells #[.int .i64 V, .slice Y y y'] 27)
  have hX2 := (hX.alloc (.cells #[.int .i64 W, .slice X x x'] 27)).alloc (.cells #[.int .i64 V, .slice Y y y'] 27)
  have hY2 := (hY.alloc (.cells #[.int .i64 W, .slice X x x'] 27)).alloc (.cells #[.int .i64 V, .slice Y y y'] 27)
  have hP2 := (Blk.new w2 27 #[.int .i64 W, .slice X x x']).alloc (.cells #[.int .i64 V, .slice Y y y'] 27)
  have hQ2 := heap_at2 w2 (.cells #[.int .i64 W, .slice X x x'] 27) 27 #[.int .i64 V, .slice Y y y']
  have hs2 := hg2.size
  clear hA1 hC1 hL1 hX hY hg2 hr1
  have a0 := hP2.cell 0
  have a1 := hP2.cell 1
  have c0 := hQ2.cell 0
  have c1 := hQ2.cell 1
  have r0 := hA2.cell 0
  have r1 := hA2.cell 1
  have f0 := hA2.frozen 0
  have f1 := hA2.frozen 1
  have s0 := hC2.cell 0
  have s1 := hC2.cell 1
  have t0 := hC2.frozen 0
  have t1 := hC2.frozen 1
  have hlo : w.heap.size + 1 < w1.heap.size := by omega
  have hlz : ((w2.alloc (.cells #[.int .i64 W, .slice X x x'] 27)).alloc (.cells #[.int .i64 V, .slice Y y y'] 27)).heap.size = w2.heap.size + 2 := by simp
  have hA3 := ((((hA2.set_ 0 (.int .i64 W)).set_ 1 (.slice X x x')).far (p := ⟨w.heap.size + 1, 0, none⟩) (by simp) (.int .i64 V)).far (p := ⟨w.heap.size + 1, 1, none⟩) (by simp) (.slice Y y y')).drew
  have hC3 := ((((hC2.far (p := ⟨w.heap.size, 0, none⟩) (by simp) (.int .i64 W)).far (p := ⟨w.heap.size, 1, none⟩) (by simp) (.slice X x x')).set_ 0 (.int .i64 V)).set_ 1 (.slice Y y y')).drew
  have hX3 := ((((hX2.far_lo (p := ⟨w.heap.size, 0, none⟩) (by simp; omega) (.int .i64 W)).far_lo (p := ⟨w.heap.size, 1, none⟩) (by simp; omega) (.slice X x x')).far_lo (p := ⟨w.heap.size + 1, 0, none⟩) (by simp; omega) (.int .i64 V)).far_lo (p := ⟨w.heap.size + 1, 1, none⟩) (by simp; omega) (.slice Y y y')).drew.rd
  have hY3 := ((((hY2.far_lo (p := ⟨w.heap.size, 0, none⟩) (by simp; omega) (.int .i64 W)).far_lo (p := ⟨w.heap.size, 1, none⟩) (by simp; omega) (.slice X x x')).far_lo (p := ⟨w.heap.size + 1, 0, none⟩) (by simp; omega) (.int .i64 V)).far_lo (p := ⟨w.heap.size + 1, 1, none⟩) (by simp; omega) (.slice Y y y')).drew.rd
  have hL3 := Below.drew (lo_set (lo_set (lo_set (lo_set hL2 (p := ⟨w.heap.size, 0, none⟩) (by simp) (.int .i64 W)) (p := ⟨w.heap.size, 1, none⟩) (by simp) (.slice X x x')) (p := ⟨w.heap.size + 1, 0, none⟩) (by simp) (.int .i64 V)) (p := ⟨w.heap.size + 1, 1, none⟩) (by simp) (.slice Y y y'))
  have z0 := Lib.hid (hA3.cell 0); have z1 := Lib.hid (hA3.cell 1); have z2 := Lib.hid (hC3.cell 0); have z3 := Lib.hid (hC3.cell 1)
  clear hX2 hY2 hL2 hA3 hC3
  go_wp2
  generalize (w2.alloc (.cells #[.int .i64 W, .slice X x x'] 27)).alloc (.cells #[.int .i64 V, .slice Y y y'] 27) = w3 at *
  go_region
  go_wp2
  exact bodyPost_ret (v := .tuple #[.agg #[.int .i64 W, .slice X x x'], .agg #[.int .i64 V, .slice Y y y']]) (by simp [results, Try.results20, go_sem, z0.out, z1.out, z2.out, z3.out]) rfl ⟨W, X, x, x', xs, V, Y, y, y', ys, rfl, hx6, hy6, hX3, hY3, hL3⟩
end Go.Proofs.Ytjogfeichnkffaa
