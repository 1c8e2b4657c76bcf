/- The law FnFillImage walked. -/
import Derived.Test.YtkcdoacojiilaaaFd
import Derived.Test.YtkcdoacojiilaaaFg
namespace Go.Proofs.Ytkcdoacojiilaaa
open Go.RowKit
set_option maxRecDepth 100000

set_option maxHeartbeats 400000 in
theorem DrawFillImage_c (A : Option Addr) (n c : Nat) (w : World) (hr : RdB w A n) (hn : n ≤ 1048576) (hc : n ≤ c) :
    Calls Try.prog 4 #[.slice A n c] w (DrawnTwoS w) := by
  go_enter Try.func4, Try.ntmps4
  go_wp2_with fail
  refine (l6Open_c A n c _ hr hn hc).mono ?_
  rintro e w1 ⟨b, rfl, hR1, hb1⟩
  have hz1 := hb1.size
  have hlo := hR1.1
  go_wp2_with fail
  refine (l93Any_c _ b 0 _ hR1 (by omega)).mono ?_
  rintro e w2 ⟨R, n, c, Q, m, d, q, xs, ys, rfl, hn, hm, hnc, hmd, hB, hQ, hG, hR, hq⟩
  go_wp2
  go_ret2
  exact ⟨_, _, _, _, _, _, _, _, rfl, hn, hm, hnc, hmd, hB.mono hz1, hQ.mono hz1, hb1.grown hG hz1 (by rintro _ ⟨⟩; exact hlo)⟩

set_option maxHeartbeats 8000000 in
theorem law_FillImage (A : Option Addr) (n c : Nat) (w : World) (hr : RdB w A n) (hb : n ≤ maxLen ∧ n ≤ c) :
    Calls Try.prog 3 #[.slice A n c] w fun e w' => e = .returned (.bool true) ∧ Below w.heap.size w w' := by
  by_cases h1 : 1048576 < n
  · go_enter Try.func3, Try.ntmps3
    go_wp2
    go_ret
    exact ⟨rfl, by (repeat (first | exact Below.refl _ _ | assumption | refine lo_alloc ?_ _ | refine lo_set ?_ (by simp; try omega) _ | refine Below.drew ?_ | refine below_drewN ?_ _ | refine lo_trans ?_ (by assumption) | refine lo_wr ?_ (by assumption) (by omega)))⟩
  go_enter Try.func3, Try.ntmps3
  go_wp2_with fail
  refine (DrawFillImage_c A n c _ hr (by omega) hb.2).mono ?_
  rintro e w1 ⟨R, n, c, Q, m, d, rs, ys, rfl, hn, hm, _, _, hB, hQ, hb1⟩
  have hB1 := hB.rd
  have hQ1 := hQ.rd
  clear hB hQ
  cases hv : sV rs ys with
  | false =>
    have hv' := Lib.hid hv
    clear hv
    go_wp2_with fail
    refine (FillImage_no _ _ _ _ _ _ rs ys _ hB1 hQ1 (by omega) (by omega) hv'.out).mono ?_
    rintro e w2 ⟨rfl, hb2⟩
    have hs2 := hb2.size
    have hkA := Blk.new w2 27 #[.int .i64 0, .slice none 0 0]
    have hbA := lo_alloc (Below.refl w2.heap.size w2) (.cells #[.int .i64 0, .slice none 0 0] 27)
    have hbAz : w2.heap.size < (w2.alloc (.cells #[.int .i64 0, .slice none 0 0] 27)).heap.size := by simp
    go_wp2_with fail
    generalize w2.alloc (.cells #[.int .i64 0, .slice none 0 0] 27) = wA at hkA hbA hbAz  ⊢
    have hB2 := hB1.next (lo_trans hb2 hbA)
    have hQ2 := hQ1.next (lo_trans hb2 hbA)
    refine (spec_FillImage_no _ _ _ _ _ _ rs ys _ hB2 hQ2 (by omega) (by omega) hv'.out).mono ?_
    rintro e w3 ⟨rfl, hb3⟩
    have hs3 := hb3.size
    have a' : Blk (w3.alloc (.cells #[.int .i64 0, .slice none 0 0] 27)) _ _ _ := hkA.next (by (repeat (first | exact Below.refl _ _ | assumption | refine lo_alloc ?_ _ | refine lo_set ?_ (by simp; try omega) _ | refine Below.drew ?_ | refine below_drewN ?_ _ | refine lo_trans ?_ (by assumption) | refine lo_wr ?_ (by assumption) (by omega))))
    have a0 := a'.cell 0
    have a1 := a'.cell 1
    clear a'
    have hkB := Blk.new w3 27 #[.int .i64 0, .slice none 0 0]
    have hbB := lo_alloc (Below.refl w3.heap.size w3) (.cells #[.int .i64 0, .slice none 0 0] 27)
    have hbBz : w3.heap.size < (w3.alloc (.cells #[.int .i64 0, .slice none 0 0] 27)).heap.size := by simp
    go_wp2_with fail
    generalize w3.alloc (.cells #[.int .i64 0, .slice none 0 0] 27) = wB at hkB hbB hbBz a0 a1 ⊢
    refine (lsameImage_t _ _ _ _ _ _ _ [] _ Rd.nil_ Rd.nil_ (by omega)).mono ?_
    rintro e w4 ⟨rfl, hb4⟩
    have hs4 := hb4.size
    clear a0 a1
    have kA4 : Blk w4 w2.heap.size _ _ := hkA.next (by (repeat (first | exact Below.refl _ _ | assumption | refine lo_alloc ?_ _ | refine lo_set ?_ (by simp; try omega) _ | refine Below.drew ?_ | refine below_drewN ?_ _ | refine lo_trans ?_ (by assumption) | refine lo_wr ?_ (by assumption) (by omega))))
    have kB4 : Blk w4 w3.heap.size _ _ := hkB.next (by (repeat (first | exact Below.refl _ _ | assumption | refine lo_alloc ?_ _ | refine lo_set ?_ (by simp; try omega) _ | refine Below.drew ?_ | refine below_drewN ?_ _ | refine lo_trans ?_ (by assumption) | refine lo_wr ?_ (by assumption) (by omega))))
    have a0 := kA4.cell 0
    have a1 := kA4.cell 1
    have b0 := kB4.cell 0
    have b1 := kB4.cell 1
    go_wp2_with fail
    refine (lsameImage_t _ _ _ _ _ _ _ [] _ Rd.nil_ Rd.nil_ (by omega)).mono ?_
    rintro e w5 ⟨rfl, hb5⟩
    go_wp2
    go_ret
    exact ⟨rfl, by (repeat (first | exact Below.refl _ _ | assumption | refine lo_alloc ?_ _ | refine lo_set ?_ (by simp; try omega) _ | refine Below.drew ?_ | refine below_drewN ?_ _ | refine lo_trans ?_ (by assumption) | refine lo_wr ?_ (by assumption) (by omega)))⟩
  | true =>
    have hv' := Lib.hid hv
    have hfit := Lib.hid (full_fit hB1.1 hQ1.1 hv)
    have hmost := Lib.hid (full_most hB1.1 hQ1.1 hv)
    clear hv
    go_wp2_with fail
    refine (FillImage_c _ _ _ _ _ _ rs ys _ hB1 hQ1 hv'.out).mono ?_
    rintro e w2 ⟨g, rfl, hb2, hg2, hgl2⟩
    have hs2 := hb2.size
    obtain ⟨X, hXe⟩ : ∃ X, Hid (fullX n m rs ys = X) := ⟨_, Lib.hid rfl⟩
    rw [hXe.out] at hfit hmost hg2
    have hX2 : Rd w2 (some ⟨g, 0, none⟩) n X := by have := Rd.of_blk hg2; rwa [hfit.out.len] at this
    have hkA := Blk.new w2 27 #[.int .i64 (m : Int), .slice (some ⟨g, 0, none⟩) n n]
    have hbA := lo_alloc (Below.refl w2.heap.size w2) (.cells #[.int .i64 (m : Int), .slice (some ⟨g, 0, none⟩) n n] 27)
    have hbAz : w2.heap.size < (w2.alloc (.cells #[.int .i64 (m : Int), .slice (some ⟨g, 0, none⟩) n n] 27)).heap.size := by simp
    go_wp2_with fail
    generalize w2.alloc (.cells #[.int .i64 (m : Int), .slice (some ⟨g, 0, none⟩) n n] 27) = wA at hkA hbA hbAz  ⊢
    have hB2 := hB1.next (lo_trans hb2 hbA)
    have hQ2 := hQ1.next (lo_trans hb2 hbA)
    refine (spec_FillImage_c _ _ _ _ _ _ rs ys _ hB2 hQ2 hv'.out).mono ?_
    rintro e w3 ⟨g3, rfl, hb3, hg3, hgl3⟩
    rw [hXe.out] at hg3
    have hs3 := hb3.size
    have hX3 : Rd w3 (some ⟨g3, 0, none⟩) n X := by have := Rd.of_blk hg3; rwa [hfit.out.len] at this
    have a' : Blk (w3.alloc (.cells #[.int .i64 (m : Int), .slice (some ⟨g3, 0, none⟩) n n] 27)) _ _ _ := hkA.next (by (repeat (first | exact Below.refl _ _ | assumption | refine lo_alloc ?_ _ | refine lo_set ?_ (by simp; try omega) _ | refine Below.drew ?_ | refine below_drewN ?_ _ | refine lo_trans ?_ (by assumption) | refine lo_wr ?_ (by assumption) (by omega))))
    have a0 := a'.cell 0
    have a1 := a'.cell 1
    clear a'
    have hkB := Blk.new w3 27 #[.int .i64 (m : Int), .slice (some ⟨g3, 0, none⟩) n n]
    have hbB := lo_alloc (Below.refl w3.heap.size w3) (.cells #[.int .i64 (m : Int), .slice (some ⟨g3, 0, none⟩) n n] 27)
    have hbBz : w3.heap.size < (w3.alloc (.cells #[.int .i64 (m : Int), .slice (some ⟨g3, 0, none⟩) n n] 27)).heap.size := by simp
    go_wp2_with fail
    generalize w3.alloc (.cells #[.int .i64 (m : Int), .slice (some ⟨g3, 0, none⟩) n n] 27) = wB at hkB hbB hbBz a0 a1 ⊢
    refine (lsameImage_t _ _ _ _ _ _ _ X _ (hX2.next (by (repeat (first | exact Below.refl _ _ | assumption | refine lo_alloc ?_ _ | refine lo_set ?_ (by simp; try omega) _ | refine Below.drew ?_ | refine below_drewN ?_ _ | refine lo_trans ?_ (by assumption) | refine lo_wr ?_ (by assumption) (by omega))))) (hX3.next (by (repeat (first | exact Below.refl _ _ | assumption | refine lo_alloc ?_ _ | refine lo_set ?_ (by simp; try omega) _ | refine Below.drew ?_ | refine below_drewN ?_ _ | refine lo_trans ?_ (by assumption) | refine lo_wr ?_ (by assumption) (by omega))))) (by omega)).mono ?_
    rintro e w4 ⟨rfl, hb4⟩
    have hs4 := hb4.size
    clear a0 a1
    have kA4 : Blk w4 w2.heap.size _ _ := hkA.next (by (repeat (first | exact Below.refl _ _ | assumption | refine lo_alloc ?_ _ | refine lo_set ?_ (by simp; try omega) _ | refine Below.drew ?_ | refine below_drewN ?_ _ | refine lo_trans ?_ (by assumption) | refine lo_wr ?_ (by assumption) (by omega))))
    have a0 := kA4.cell 0
    have a1 := kA4.cell 1
    have H4 : Below w.heap.size w w4 := lo_trans (lo_trans (lo_trans (lo_trans (lo_trans hb1 hb2) hbA) hb3) hbB) hb4
    have hX4 : Rd w4 (some ⟨g, 0, none⟩) n X := hX2.next (lo_trans (lo_trans (lo_trans hbA hb3) hbB) hb4)
    have hB4 := hB2.next (lo_trans (lo_trans hb3 hbB) hb4)
    have hQ4 := hQ2.next (lo_trans (lo_trans hb3 hbB) hb4)
    clear hX2 hB2 hQ2 hB1 hQ1 hkA hkB hb1 hb2 hbA hb3 hbB hb4 hg2 hg3
    go_wp2_with fail
    refine (FillFits_t _ _ _ _ _ _ _ _ rs ys X _ hB4 hQ4 hX4 hv'.out hfit.out).mono ?_
    rintro e w5 ⟨rfl, hb5⟩
    have kA5 := kA4.next hb5
    have H5 := lo_trans H4 hb5
    clear a0 a1
    have a0 := kA5.cell 0
    have a1 := kA5.cell 1
    go_wp2_with fail
    refine (ImageMany_c m _ _ _ X _ (hX4.next hb5) hfit.out.ok).mono ?_
    rintro e w6 ⟨rfl, hb6⟩
    have H6 := lo_trans H5 hb6
    have hB6 := hB4.next (lo_trans hb5 hb6)
    have hQ6 := hQ4.next (lo_trans hb5 hb6)
    clear a0 a1 kA4 kA5
    go_wp2_with fail
    refine (FillMost_c _ _ _ _ _ _ rs ys _ hB6 hQ6 hv'.out).mono ?_
    rw [← hmost.out]
    rintro e w7 ⟨rfl, hb7⟩
    go_wp2
    go_ret
    exact ⟨rfl, lo_trans H6 hb7⟩
end Go.Proofs.Ytkcdoacojiilaaa
