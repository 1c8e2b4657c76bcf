
/- Walks: drawn sums, the reference's l91Sums, l91SumsWrong, l93Any. -/
import Derived.Test.YtljmlhcmjgepcaaRc
namespace Go.Proofs.Ytljmlhcmjgepcaa
open Go.RowKit
set_option maxRecDepth 100000

theorem Buf.at_ {w : World} {base c k n : Nat} {A : Option Addr} {xs : List Int} (h : Buf w base A c xs) (hn : xs.length = n) (hk : k < n) : ∃ g, A = some ⟨g, 0, none⟩ ∧ base ≤ g ∧ g < w.heap.size ∧ w.cell? ⟨g, k, none⟩ = some (.int .i64 (xs[k]?.getD 0)) ∧ w.frozen? ⟨g, k, none⟩ = false := by
  have hO := h.own
  rw [hn] at hO
  obtain ⟨g, h1, h2, h3, h4, h5, _⟩ := hO.at_ hk
  exact ⟨g, h1, h2, h3, h4, h5⟩
theorem Buf.kept_lo {w w' : World} {base c : Nat} {A : Option Addr} {xs : List Int} (h : Buf w base A c xs) {row : Option Nat} (hg : w.grownBy w' row) (hr : ∀ g, row = some g → g < base) : Buf w' base A c xs :=
  h.kept hg (fun g e e' => by have := hr g e'; have := h.lt g e; omega)

theorem Buf.le {w : World} {base c n : Nat} {A : Option Addr} {xs : List Int} (h : Buf w base A c xs) (hn : xs.length = n) : n ≤ c := by
  subst hn
  rcases h.2 with ⟨hv, _⟩ | ⟨g', cap, cur, hv, hb, hh, hn, _⟩
  · injection hv with _ h2 h3; omega
  · injection hv with _ h2 h3; omega

def DrawnSums (w : World) (lo b p k : Nat) (e : Ending) (w' : World) : Prop :=
  ∃ (R : Option Addr) (n c : Nat) (Q : Option Addr) (m d q : Nat) (xs ys : List Int), e = .returned (.tuple #[.slice R n c, .slice Q m d]) ∧ 1 ≤ n ∧ n ≤ 6 ∧ 1 ≤ m ∧ m ≤ 6 ∧ xs.length = n ∧ ys.length = m ∧
    Buf w' w.heap.size R c xs ∧ Buf w' w.heap.size Q d ys ∧ Hid (∀ g, R = some ⟨g, 0, none⟩ → Q ≠ some ⟨g, 0, none⟩) ∧ w.grownBy w' (some b) ∧ Rdr w' lo b q ∧ q ≤ p + k

set_option maxHeartbeats 4000000 in
theorem l91Sums_c (lo b p : Nat) (w : World) (h : Rdr w lo b p) (hp : p ≤ 500000) :
    Calls Try.prog 48 #[.pointer (some ⟨b, 0, none⟩), .int .i64 36] w (DrawnSums w lo b p 70) := by
  have hbz := h.lt
  go_enter Try.func48, Try.ntmps48
  go_wp2_with fail
  refine (l91Image_c lo b p 36 _ h (by omega) (by omega) (by omega)).mono ?_
  rintro e w1 ⟨a, m, g, q, f, rfl, ha1, ha2, hm1, hm2, hg, hk1, hg1, hr1, hq⟩
  have hgw := hk1.lt
  have hz1 := hg1.size
  obtain ⟨wz, hwz⟩ : ∃ wz, wz = w1.alloc (.cells #[.int .i64 m, .slice (some ⟨g, 0, none⟩) a a] 36) := ⟨_, rfl⟩
  have hO : Blk wz w1.heap.size 36 #[.int .i64 m, .slice (some ⟨g, 0, none⟩) a a] := by rw [hwz]; exact Blk.new _ _ _
  have hI : Rd wz (some ⟨g, 0, none⟩) a (img f a m) := by rw [hwz]; exact (Own.of_blk (hk1.alloc _) hg (img_len _ _ _)).rd
  have hG : w.grownBy wz (some b) := by rw [hwz]; exact grown_trans hg1 (grown_alloc _ _)
  have hR : Rdr wz lo b q := by rw [hwz]; exact hr1.next (by (repeat (first | exact Below.refl _ _ | assumption | refine lo_alloc ?_ _ | refine lo_set ?_ (by simp; try omega) _ | refine Below.drew ?_ | refine below_drewN ?_ _ | refine lo_trans ?_ (by assumption) | refine lo_wr ?_ (by assumption) (by omega))))
  have hzz : wz.heap.size = w1.heap.size + 1 := by rw [hwz]; simp
  clear hk1 hg1 hr1
  go_wp2_with fail
  rw [← hwz]
  have hwz' := Lib.hid hwz; clear hwz
  have o0 := hO.cell 0
  have o1 := hO.cell 1
  go_wp2_with fail
  refine (spec_RowSums_c _ _ _ _ f _ hI ha1 ha2 hm1 hm2).mono ?_
  rintro e w2 ⟨R, c, xs, rfl, hB2, hxl, hX, hb2⟩
  have hO2 := hO.next hb2
  have hz2 := hb2.size
  clear o0 o1
  have o0 := hO2.cell 0
  have o1 := hO2.cell 1
  have hxl' := Lib.hid hxl; clear hxl
  go_wp2_with fail
  refine (spec_ColSums_c _ _ _ _ f _ (hI.next hb2) ha1 ha2 hm1 hm2).mono ?_
  rintro e w3 ⟨Q, d, ys, rfl, hQ3, hyl, hY, hb3⟩
  have hyl' := Lib.hid hyl; clear hyl
  have hz3 := hb3.size
  have hB3 := hB2.next hb3
  have hD : Hid (∀ g, R = some ⟨g, 0, none⟩ → Q ≠ some ⟨g, 0, none⟩) := Lib.hid (fun g e e' => by have := hB2.lt g e; have := hQ3.lt g e'; omega)
  have hG3 : w.grownBy w3 (some b) := grown_trans (grown_trans hG (grown_of_below hb2 _)) (grown_of_below hb3 _)
  have hR3 := (hR.next hb2).next hb3
  have hB3' := hB3.mono (show w.heap.size ≤ wz.heap.size by omega)
  have hQ3' := hQ3.mono (show w.heap.size ≤ w2.heap.size by omega)
  clear hO hO2 hI hb2 hb3 hB2 hQ3 hB3 hG hR o0 o1
  go_wp2_with fail
  refine (pick_c lo b q _ _ hR3 (by omega)).mono ?_
  rintro e w4 ⟨x, rfl, _, hg4, hr4⟩
  have hB4 := hB3'.kept_lo hg4 (by rintro _ ⟨⟩; exact hbz)
  have hQ4 := hQ3'.kept_lo hg4 (by rintro _ ⟨⟩; exact hbz)
  have hG4 := grown_trans hG3 hg4
  have hz4 := hg4.size
  clear hB3' hQ3' hG3 hg4 hR3
  by_cases s0 : x = 0
  · have s0' : ((x : Int) == 0) = true := by simp; omega
    clear s0
    go_wp2_with fail
    refine (pick_c lo b _ _ _ hr4 (by omega)).mono ?_
    rintro e w5 ⟨x5, rfl, hx5, hg5, hr5⟩
    have hy5 := hx5 (by omega)
    go_wp2_with fail
    refine (pick_c lo b _ _ _ hr5 (by omega)).mono ?_
    rintro e w6 ⟨x6, rfl, hx6, hg6, hr6⟩
    have hy6 := hx6 (by omega)
    clear hx5 hx6
    have hB6 := (hB4.kept_lo hg5 (by rintro _ ⟨⟩; exact hbz)).kept_lo hg6 (by rintro _ ⟨⟩; exact hbz)
    have hQ6 := (hQ4.kept_lo hg5 (by rintro _ ⟨⟩; exact hbz)).kept_lo hg6 (by rintro _ ⟨⟩; exact hbz)
    have hG6 := grown_trans (grown_trans hG4 hg5) hg6
    obtain ⟨gA, rfl, lA, zA, cA, fA⟩ := hB6.at_ (k := x5) hxl'.out (by omega)
    have hF := hB6.set (k := x5) (x6 : Int)
    have hQF := hQ6.kept (grown_set (w := w6) (g := gA) (k := x5) (.int .i64 (x6 : Int))) (fun g e e' => by injection e' with e'; subst e'; exact hD.out _ rfl e)
    have hGF := grown_over hG6 (grown_set (w := w6) (g := gA) (k := x5) (.int .i64 (x6 : Int))) (by rintro _ ⟨⟩; omega)
    have hRF := hr6.grown (grown_set (w := w6) (g := gA) (k := x5) (.int .i64 (x6 : Int))) (by omega)
    clear hB4 hQ4 hG4 hg5 hg6 hr4 hr5 hr6 hB6 hQ6 hG6
    go_wp2
    go_ret2
    exact ⟨_, _, _, _, _, _, _, _, _, rfl, ha1, ha2, hm1, hm2, by rw [List.length_set]; exact hxl'.out, hyl'.out, hF, hQF, hD, hGF, hRF, by omega⟩
  have s0' : ((x : Int) == 0) = false := by simp; omega
  by_cases s1 : x = 1
  · have s1' : ((x : Int) == 1) = true := by simp; omega
    clear s0 s1
    go_wp2_with fail
    refine (pick_c lo b _ _ _ hr4 (by omega)).mono ?_
    rintro e w5 ⟨x5, rfl, hx5, hg5, hr5⟩
    have hy5 := hx5 (by omega)
    go_wp2_with fail
    refine (pick_c lo b _ _ _ hr5 (by omega)).mono ?_
    rintro e w6 ⟨x6, rfl, hx6, hg6, hr6⟩
    have hy6 := hx6 (by omega)
    clear hx5 hx6
    have hB6 := (hB4.kept_lo hg5 (by rintro _ ⟨⟩; exact hbz)).kept_lo hg6 (by rintro _ ⟨⟩; exact hbz)
    have hQ6 := (hQ4.kept_lo hg5 (by rintro _ ⟨⟩; exact hbz)).kept_lo hg6 (by rintro _ ⟨⟩; exact hbz)
    have hG6 := grown_trans (grown_trans hG4 hg5) hg6
    obtain ⟨gA, rfl, lA, zA, cA, fA⟩ := hQ6.at_ (k := x5) hyl'.out (by omega)
    have hv5 := hY.out _ (mem_at (show x5 < ys.length by rw [hyl'.out]; omega))
    have hvS : ∀ j, j < m → -1 ≤ (ys.set x5 (ys[x5]?.getD 0 + 1))[j]?.getD 0 ∧ (ys.set x5 (ys[x5]?.getD 0 + 1))[j]?.getD 0 ≤ 7 := by
      intro j hj
      have hm' := mem_at (show j < (ys.set x5 (ys[x5]?.getD 0 + 1)).length by rw [List.length_set, hyl'.out]; exact hj)
      rcases List.mem_or_eq_of_mem_set hm' with h | h
      · have := hY.out _ h; omega
      · omega
    have hv6 := hvS x6 (by omega)
    clear hvS
    have hQ7 := hQ6.set (k := x5) (ys[x5]?.getD 0 + 1)
    generalize ys[x5]?.getD 0 = v5 at cA hv5 hv6 hQ7 ⊢
    have hB7 := hB6.kept (grown_set (w := w6) (g := gA) (k := x5) (.int .i64 (v5 + 1))) (fun g e e' => by injection e' with e'; subst e'; exact hD.out _ e rfl)
    have hG7 := grown_over hG6 (grown_set (w := w6) (g := gA) (k := x5) (.int .i64 (v5 + 1))) (by rintro _ ⟨⟩; omega)
    have hR7 := hr6.grown (grown_set (w := w6) (g := gA) (k := x5) (.int .i64 (v5 + 1))) (by omega)
    obtain ⟨_, e1, _, _, cA2, fA2⟩ := hQ7.at_ (k := x6) (n := m) (by rw [List.length_set]; exact hyl'.out) (by omega)
    cases e1
    have hQ8 := hQ7.set (k := x6) ((ys.set x5 (v5 + 1))[x6]?.getD 0 - 1)
    have hl8 := Lib.hid (show ((ys.set x5 (v5 + 1)).set x6 ((ys.set x5 (v5 + 1))[x6]?.getD 0 - 1)).length = m by rw [List.length_set, List.length_set]; exact hyl'.out)
    generalize (ys.set x5 (v5 + 1))[x6]?.getD 0 = v6 at cA2 hv6 hQ8 hl8 ⊢
    have hB8 := hB7.kept (grown_set (g := gA) (k := x6) (.int .i64 (v6 - 1))) (fun g e e' => by injection e' with e'; subst e'; exact hD.out _ e rfl)
    have hG8 := grown_over hG7 (grown_set (g := gA) (k := x6) (.int .i64 (v6 - 1))) (by rintro _ ⟨⟩; omega)
    have hR8 := hR7.grown (grown_set (g := gA) (k := x6) (.int .i64 (v6 - 1))) (by omega)
    clear hB4 hQ4 hG4 hg5 hg6 hr4 hr5 hr6 hB6 hQ6 hG6 hB7 hG7 hR7 hQ7
    go_wp2
    go_ret2
    exact ⟨_, _, _, _, _, _, _, _, _, rfl, ha1, ha2, hm1, hm2, hxl'.out, hl8.out, hB8, hQ8, hD, hG8, hR8, by omega⟩
  have s1' : ((x : Int) == 1) = false := by simp; omega
  by_cases s2 : x = 2
  · have s2' : ((x : Int) == 2) = true := by simp; omega
    clear s0 s1 s2
    go_wp2_with fail
    refine (pick_c lo b _ _ _ hr4 (by omega)).mono ?_
    rintro e w5 ⟨x5, rfl, hx5, hg5, hr5⟩
    have hy5 := hx5 (by omega)
    clear hx5
    have hB6 := hB4.kept_lo hg5 (by rintro _ ⟨⟩; exact hbz)
    have hQ6 := hQ4.kept_lo hg5 (by rintro _ ⟨⟩; exact hbz)
    have hG6 := grown_trans hG4 hg5
    obtain ⟨gA, rfl, lA, zA, cA, fA⟩ := hQ6.at_ (k := 0) hyl'.out (by omega)
    have hF := hQ6.set (k := 0) ((a : Int) + (x5 : Int))
    have hBF := hB6.kept (grown_set (w := w5) (g := gA) (k := 0) (.int .i64 ((a : Int) + (x5 : Int)))) (fun g e e' => by injection e' with e'; subst e'; exact hD.out _ e rfl)
    have hGF := grown_over hG6 (grown_set (w := w5) (g := gA) (k := 0) (.int .i64 ((a : Int) + (x5 : Int)))) (by rintro _ ⟨⟩; omega)
    have hRF := hr5.grown (grown_set (w := w5) (g := gA) (k := 0) (.int .i64 ((a : Int) + (x5 : Int)))) (by omega)
    clear hB4 hQ4 hG4 hg5 hr4 hr5 hB6 hQ6 hG6
    go_wp2
    go_ret2
    exact ⟨_, _, _, _, _, _, _, _, _, rfl, ha1, ha2, hm1, hm2, hxl'.out, by rw [List.length_set]; exact hyl'.out, hBF, hF, hD, hGF, hRF, by omega⟩
  · have s2' : ((x : Int) == 2) = false := by simp; omega
    clear s0 s1 s2
    go_wp2
    go_ret2
    exact ⟨_, _, _, _, _, _, _, _, _, rfl, ha1, ha2, hm1, hm2, hxl'.out, hyl'.out, hB4, hQ4, hD, hG4, hr4, by omega⟩
end Go.Proofs.Ytljmlhcmjgepcaa
