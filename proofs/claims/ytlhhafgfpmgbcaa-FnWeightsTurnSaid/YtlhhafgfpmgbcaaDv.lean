/- Walks: drawn weights with an image. -/
import Derived.Test.YtlhhafgfpmgbcaaDu
namespace Go.Proofs.Ytlhhafgfpmgbcaa
open Go.RowKit

theorem Own.cellAt {w : World} {lo g n k : Nat} {xs : List Int} (h : Own w lo (some ⟨g, 0, none⟩) n xs) (hk : k < n) : w.cell? ⟨g, k, none⟩ = some (.int .i64 (xs[k]?.getD 0)) := by
  obtain ⟨g', e, _, _, hc, _⟩ := h.at_ hk
  cases e
  exact hc
theorem Own.ltAt {w : World} {lo g n k : Nat} {xs : List Int} (h : Own w lo (some ⟨g, 0, none⟩) n xs) (hk : k < n) : g < w.heap.size := by
  obtain ⟨g', e, _, hl, _⟩ := h.at_ hk
  cases e
  exact hl

def DrawnFit (w : World) (e : Ending) (w' : World) : Prop :=
  ∃ (W : Int) (A : Option Addr) (n c : Nat) (P : Option Addr) (l a : Nat) (Q : Option Addr) (m d : Nat) (xs p q : List Int), e = .returned (.tuple #[.agg #[.int .i64 W, .slice A n c], .slice P l a, .slice Q m d]) ∧ n ≤ 6 ∧ l ≤ 6 ∧ m ≤ 6 ∧
    Own w' w.heap.size A n xs ∧ Own w' w.heap.size P l p ∧ Own w' w.heap.size Q m q ∧ Below w.heap.size w w'

theorem fin_cells {w wr : World} {v0 v1 : Value} (hK : Blk wr w.heap.size 24 #[v0, v1]) (hB : Below w.heap.size w wr) (u0 u1 : Value) :
    (((wr.setCell ⟨w.heap.size, 0, none⟩ u0).setCell ⟨w.heap.size, 1, none⟩ u1).cell? ⟨w.heap.size, 0, none⟩ = some u0) ∧ (((wr.setCell ⟨w.heap.size, 0, none⟩ u0).setCell ⟨w.heap.size, 1, none⟩ u1).cell? ⟨w.heap.size, 1, none⟩ = some u1) ∧
    Below w.heap.size w ((wr.setCell ⟨w.heap.size, 0, none⟩ u0).setCell ⟨w.heap.size, 1, none⟩ u1) := by
  have h := (hK.set_ 0 u0).set_ 1 u1
  exact ⟨by rw [h.cell]; rfl, by rw [h.cell]; rfl, (hB.setCell (by simp) _).setCell (by simp) _⟩

set_option maxHeartbeats 2000000 in
theorem DrawWeightsFit_c (A : Option Addr) (n c : Nat) (w : World) (hr : RdB w A n) (hn : n ≤ 1048576) (hc : n ≤ c) :
    Calls Try.prog 27 #[.slice A n c] w (DrawnFit w) := by
  go_enter Try.func27, Try.ntmps27
  go_wp2_with fail
  refine (l6Open_c A n c _ (hr.next (by (repeat (first | exact Below.refl _ _ | assumption | refine lo_alloc ?_ _ | refine lo_set ?_ (by simp; try omega) _ | refine Below.drew ?_ | refine below_drewN ?_ _ | refine lo_trans ?_ (by assumption) | refine lo_wr ?_ (by assumption) (by omega))))) hn hc).mono ?_
  rintro e w1 ⟨b, rfl, hr1, hb1⟩
  have hK1 : Blk w1 w.heap.size _ _ := (Blk.new w 24 #[.int .i64 0, .slice none 0 0]).next hb1
  have hB1 : Below w.heap.size w w1 := by (repeat (first | exact Below.refl _ _ | assumption | refine lo_alloc ?_ _ | refine lo_set ?_ (by simp; try omega) _ | refine Below.drew ?_ | refine below_drewN ?_ _ | refine lo_trans ?_ (by assumption) | refine lo_wr ?_ (by assumption) (by omega)))
  have hbl := hr1.1
  rw [World.size_alloc] at hbl
  clear hb1
  go_wp2_with fail
  refine (l93Weights_c _ b 0 _ hr1 (by omega)).mono ?_
  rintro e w2 ⟨P, l, a, Q, m, b', p, q, z, rfl, h1, h2, h3, hP, hQ, hg2, hr2, hz⟩
  have hK2 := hK1.grown hg2 (by intro e; injection e; omega)
  have hB2 := lo_grown hB1 hg2 (by rintro g ⟨⟩; omega)
  have hs1 := hB1.size
  have hs2 := hB2.size
  have hbz := hr2.lt
  have hb1l := hr1.lt
  have hw1l := hK1.lt
  have hs12 := hg2.size
  clear hg2 hK1 hr1
  go_wp2_with fail
  refine (spec_WeightsImage_c _ _ _ _ _ _ p q _ hP.rd hQ.rd (by omega) (by omega)).mono ?_
  rintro e w3 ⟨R, r, k, rfl, hb3, ho3⟩
  have hr16 : r ≤ 6 := by rw [← ho3.1]; exact wX_len p q
  have hs3 := hb3.size
  have hK3 := (hK2.next hb3).alloc (.cells #[.int .i64 (wW p q), .slice R r k] 24)
  have hB3 := lo_alloc (lo_trans hB2 hb3) (.cells #[.int .i64 (wW p q), .slice R r k] 24)
  have hn3 := lo_alloc hb3 (.cells #[.int .i64 (wW p q), .slice R r k] 24)
  have hP3 := hP.next hn3
  have hQ3 := hQ.next hn3
  have hr3 := hr2.next hn3
  have hR3 := ho3.alloc (.cells #[.int .i64 (wW p q), .slice R r k] 24)
  have hO3 := Blk.new w3 24 #[.int .i64 (wW p q), .slice R r k]
  have hz3 : w3.heap.size < (w3.alloc (.cells #[.int .i64 (wW p q), .slice R r k] 24)).heap.size := by simp
  clear hP hQ hr2 ho3 hK2 hB2 hn3 hB1
  cases hO : wOk p q with
  | false =>
    go_wp2_with fail
    generalize w3.alloc (.cells #[.int .i64 (wW p q), .slice R r k] 24) = wA at hK3 hB3 hP3 hQ3 hr3 hR3 hO3 hz3 ⊢
    refine (l91Wrong_c _ b z 36 _ hr3 (by omega) (by omega) (by omega)).mono ?_
    rintro e w4 ⟨W, A', n', c', z', xs, rfl, hW0, hW7, hn6, hX, hg4, hr4, hz4⟩
    have hK4 := hK3.grown hg4 (by intro e; injection e; omega)
    have hB4 := lo_grown hB3 hg4 (by rintro g ⟨⟩; omega)
    have r0 := hK4.cell 0
    have r1 := hK4.cell 1
    have f0 := hK4.frozen 0
    have f1 := hK4.frozen 1
    obtain ⟨s0, s1, hB5⟩ := fin_cells hK4 hB4 (.int .i64 W) (.slice A' n' c')
    have hsA := hB3.size
    have hX5 := ((hX.far_lo (p := ⟨w.heap.size, 0, none⟩) (by simp; omega) (.int .i64 W)).far_lo (p := ⟨w.heap.size, 1, none⟩) (by simp; omega) (.slice A' n' c')).mono (show w.heap.size ≤ wA.heap.size by omega)
    have hP5 := (((hP3.grown_lo hg4 (by rintro g ⟨⟩; omega)).far_lo (p := ⟨w.heap.size, 0, none⟩) hw1l (.int .i64 W)).far_lo (p := ⟨w.heap.size, 1, none⟩) hw1l (.slice A' n' c')).mono (show w.heap.size ≤ w1.heap.size by omega)
    have hQ5 := (((hQ3.grown_lo hg4 (by rintro g ⟨⟩; omega)).far_lo (p := ⟨w.heap.size, 0, none⟩) hw1l (.int .i64 W)).far_lo (p := ⟨w.heap.size, 1, none⟩) hw1l (.slice A' n' c')).mono (show w.heap.size ≤ w1.heap.size by omega)
    have s0' := Lib.hid s0; have s1' := Lib.hid s1; clear s0 s1
    go_wp2
    refine bodyPost_ret (v := .tuple #[.agg #[.int .i64 W, .slice A' n' c'], .slice P l a, .slice Q m b']) (by simp [results, Try.results27, go_sem, s0'.out, s1'.out]) rfl ?_
    exact ⟨_, _, _, _, _, _, _, _, _, _, _, _, _, rfl, hn6, h2, h3, hX5, hP5, hQ5, hB5⟩
  | true =>
    go_wp2_with fail
    generalize w3.alloc (.cells #[.int .i64 (wW p q), .slice R r k] 24) = wA at hK3 hB3 hP3 hQ3 hr3 hR3 hO3 hz3 ⊢
    refine (pick_c _ b z 6 _ hr3 (by omega)).mono ?_
    rintro e w4 ⟨x, rfl, hx, hg4, hr4⟩
    clear hx
    have hK4 := hK3.grown hg4 (by intro e; injection e; omega)
    have hB4 := lo_grown hB3 hg4 (by rintro g ⟨⟩; omega)
    have hP4 := hP3.grown_lo hg4 (by rintro g ⟨⟩; omega)
    have hQ4 := hQ3.grown_lo hg4 (by rintro g ⟨⟩; omega)
    have hR4 := hR3.grown_lo hg4 (by rintro g ⟨⟩; omega)
    have hO4 := hO3.grown hg4 (by intro e; injection e; omega)
    have hsA := hB3.size
    have hs4 := hg4.size
    clear hP3 hQ3 hR3 hO3 hB3 hK3 hr3
    by_cases x0 : x = 0
    · have x0' : ((x : Int) == 0) = true := by simp; omega
      clear x0
      go_wp2_with fail
      refine (l91Wrong_c _ b _ 36 _ hr4 (by omega) (by omega) (by omega)).mono ?_
      rintro e w5 ⟨W, A', n', c', z', xs, rfl, hW0, hW7, hn6, hX, hg5, hr5, hz5⟩
      have hK5 := hK4.grown hg5 (by intro e; injection e; omega)
      have hB5 := lo_grown hB4 hg5 (by rintro g ⟨⟩; omega)
      have r0 := hK5.cell 0
      have r1 := hK5.cell 1
      have f0 := hK5.frozen 0
      have f1 := hK5.frozen 1
      obtain ⟨s0, s1, hB6⟩ := fin_cells hK5 hB5 (.int .i64 W) (.slice A' n' c')
      have hX5 := ((hX.far_lo (p := ⟨w.heap.size, 0, none⟩) (by simp; omega) (.int .i64 W)).far_lo (p := ⟨w.heap.size, 1, none⟩) (by simp; omega) (.slice A' n' c')).mono (show w.heap.size ≤ w4.heap.size by omega)
      have hP5 := (((hP4.grown_lo hg5 (by rintro g ⟨⟩; omega)).far_lo (p := ⟨w.heap.size, 0, none⟩) hw1l (.int .i64 W)).far_lo (p := ⟨w.heap.size, 1, none⟩) hw1l (.slice A' n' c')).mono (show w.heap.size ≤ w1.heap.size by omega)
      have hQ5 := (((hQ4.grown_lo hg5 (by rintro g ⟨⟩; omega)).far_lo (p := ⟨w.heap.size, 0, none⟩) hw1l (.int .i64 W)).far_lo (p := ⟨w.heap.size, 1, none⟩) hw1l (.slice A' n' c')).mono (show w.heap.size ≤ w1.heap.size by omega)
      have s0' := Lib.hid s0; have s1' := Lib.hid s1; clear s0 s1
      go_wp2
      refine bodyPost_ret (v := .tuple #[.agg #[.int .i64 W, .slice A' n' c'], .slice P l a, .slice Q m b']) (by simp [results, Try.results27, go_sem, s0'.out, s1'.out]) rfl ?_
      exact ⟨_, _, _, _, _, _, _, _, _, _, _, _, _, rfl, hn6, h2, h3, hX5, hP5, hQ5, hB6⟩
    · have x0' : ((x : Int) == 0) = false := by simp; omega
      clear x0
      have r0 := hK4.cell 0
      have r1 := hK4.cell 1
      have f0 := hK4.frozen 0
      have f1 := hK4.frozen 1
      have o0 := hO4.cell 0
      have o1 := hO4.cell 1
      obtain ⟨s0, s1, hB6⟩ := fin_cells hK4 hB4 (.int .i64 (wW p q)) (.slice R r k)
      have hX5 := ((hR4.far_lo (p := ⟨w.heap.size, 0, none⟩) (by simp; omega) (.int .i64 (wW p q))).far_lo (p := ⟨w.heap.size, 1, none⟩) (by simp; omega) (.slice R r k)).mono (show w.heap.size ≤ w2.heap.size by omega)
      have hP5 := ((hP4.far_lo (p := ⟨w.heap.size, 0, none⟩) hw1l (.int .i64 (wW p q))).far_lo (p := ⟨w.heap.size, 1, none⟩) hw1l (.slice R r k)).mono (show w.heap.size ≤ w1.heap.size by omega)
      have hQ5 := ((hQ4.far_lo (p := ⟨w.heap.size, 0, none⟩) hw1l (.int .i64 (wW p q))).far_lo (p := ⟨w.heap.size, 1, none⟩) hw1l (.slice R r k)).mono (show w.heap.size ≤ w1.heap.size by omega)
      have s0' := Lib.hid s0; have s1' := Lib.hid s1; clear s0 s1
      go_wp2
      refine bodyPost_ret (v := .tuple #[.agg #[.int .i64 (wW p q), .slice R r k], .slice P l a, .slice Q m b']) (by simp [results, Try.results27, go_sem, s0'.out, s1'.out]) rfl ?_
      exact ⟨_, _, _, _, _, _, _, _, _, _, _, _, _, rfl, hr16, h2, h3, hX5, hP5, hQ5, hB6⟩
end Go.Proofs.Ytlhhafgfpmgbcaa
