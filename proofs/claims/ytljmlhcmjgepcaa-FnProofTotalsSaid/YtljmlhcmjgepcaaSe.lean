
/- Walks: drawn sums that may be wrong; sums at random. -/
import Derived.Test.YtljmlhcmjgepcaaSd
namespace Go.Proofs.Ytljmlhcmjgepcaa
open Go.RowKit
set_option maxRecDepth 100000

def DrawnList (w : World) (lo b p k : Nat) (e : Ending) (w' : World) : Prop :=
  ∃ (R : Option Addr) (n c : Nat) (Q : Option Addr) (m d q : Nat) (xs ys : List Int), e = .returned (.tuple #[.slice R n c, .slice Q m d]) ∧ n ≤ 12 ∧ m ≤ 12 ∧ n ≤ c ∧ m ≤ d ∧
    Own w' w.heap.size R n xs ∧ Own w' w.heap.size Q m ys ∧ w.grownBy w' (some b) ∧ Rdr w' lo b q ∧ q ≤ p + k

set_option maxHeartbeats 4000000 in
theorem l91SumsWrong_c (lo b p : Nat) (w : World) (h : Rdr w lo b p) (hp : p ≤ 400000) :
    Calls Try.prog 41 #[.pointer (some ⟨b, 0, none⟩), .int .i64 36] w (DrawnList w lo b p 71) := by
  have hbz := h.lt
  go_enter Try.func41, Try.ntmps41
  go_wp2_with fail
  refine (l91Sums_c lo b p _ h (by omega)).mono ?_
  rintro e w1 ⟨R, n, c, Q, m, d, q, xs, ys, rfl, hn1, hn2, hm1, hm2, hxl, hyl, hB, hQ, hD, hG, hR, hq⟩
  have hxl' := Lib.hid hxl; clear hxl
  have hyl' := Lib.hid hyl; clear hyl
  have hz1 := hG.size
  have hnc := hB.le hxl'.out
  have hmd := hQ.le hyl'.out
  go_wp2_with fail
  refine (pick_c lo b q _ _ hR (by omega)).mono ?_
  rintro e w2 ⟨x, rfl, _, hg2, hr2⟩
  have hB2 := hB.kept_lo hg2 (by rintro _ ⟨⟩; exact hbz)
  have hQ2 := hQ.kept_lo hg2 (by rintro _ ⟨⟩; exact hbz)
  have hG2 := grown_trans hG hg2
  have hz2 := hg2.size
  clear hB hQ hG hR hg2
  by_cases s0 : x = 0
  · have s0' : ((x : Int) == 0) = true := by simp; omega
    clear s0
    obtain ⟨gA, rfl, lA, zA, cA, fA⟩ := hB2.at_ (k := 0) hxl'.out (by omega)
    have hF := (hB2.set (k := 0) (-1)).own
    rw [List.length_set, hxl'.out] at hF
    have hQF := (hQ2.kept (grown_set (w := w2) (g := gA) (k := 0) (.int .i64 (-1))) (fun g e e' => by injection e' with e'; subst e'; exact hD.out _ rfl e)).own
    rw [hyl'.out] at hQF
    have hGF := grown_over hG2 (grown_set (w := w2) (g := gA) (k := 0) (.int .i64 (-1))) (by rintro _ ⟨⟩; omega)
    have hRF := hr2.grown (grown_set (w := w2) (g := gA) (k := 0) (.int .i64 (-1))) (by omega)
    clear hB2 hQ2 hG2 hr2
    go_wp2
    go_ret2
    exact ⟨_, _, _, _, _, _, _, _, _, rfl, by omega, by omega, hnc, hmd, hF, hQF, hGF, hRF, by omega⟩
  have s0' : ((x : Int) == 0) = false := by simp; omega
  have hO := hB2.own
  rw [hxl'.out] at hO
  by_cases s1 : x = 1
  · have s1' : ((x : Int) == 1) = true := by simp; omega
    clear s0 s1
    have hQo := hQ2.own
    rw [hyl'.out] at hQo
    have hn2' := (Below.refl w2.heap.size w2).alloc (Nat.le_refl _) (.cells #[] 3)
    go_wp2
    go_ret2
    exact ⟨_, _, _, _, _, _, _, [], _, rfl, by omega, by omega, Nat.le_refl _, hmd, Own.nil_ _ _ _, hQo.next hn2', grown_trans hG2 (grown_alloc _ _), hr2.next hn2', by omega⟩
  have s1' : ((x : Int) == 1) = false := by simp; omega
  by_cases s2 : x = 2
  · have s2' : ((x : Int) == 2) = true := by simp; omega
    clear s0 s1 s2
    have hn2' := (Below.refl w2.heap.size w2).alloc (Nat.le_refl _) (.cells #[.int .i64 0, .int .i64 0, .int .i64 0, .int .i64 0, .int .i64 0, .int .i64 0] 3)
    have hQ3 := hQ2.next hn2'
    have hO3 := hO.next hn2'
    have hR3 := hr2.next hn2'
    have hG3 := grown_trans hG2 (grown_alloc (.cells #[.int .i64 0, .int .i64 0, .int .i64 0, .int .i64 0, .int .i64 0, .int .i64 0] 3) (some b))
    have hrd : Rd (w2.alloc (.cells (ints [0, 0, 0, 0, 0, 0]) 3)) (some ⟨w2.heap.size, 0, none⟩) 6 [0, 0, 0, 0, 0, 0] := Rd.of_blk (Blk.new _ _ _)
    clear hB2 hQ2 hO hr2 hG2 hn2'
    go_wp2_with (at_builtin; refine (wpl_append rfl _ _ rfl w.heap.size Q d m ys rfl hyl'.out.symm hQ3 _ 6 6 [0, 0, 0, 0, 0, 0] rfl hrd (by omega) (by omega) (by simp; omega) ?_); intro g c' w4 hB4 hg4 hat)
    have hBk := rowA_ge hQ3
    have hn4 := rowA_at hQ3
    have hO4 := hO3.grown hg4 (fun g e e' => hD.out g e (hn4 g e'))
    have hmd4 := hB4.le (n := m + 6) (by rw [List.length_append, hyl'.out]; rfl)
    have hQ4 := hB4.own
    rw [List.length_append, hyl'.out] at hQ4
    have hG4 := grown_over hG3 hg4 (fun g hg => hBk g hg)
    have hR4 := hR3.grownA hg4 (fun g hg => by have := hBk g hg; omega)
    clear hO3 hR3 hG3 hQ3 hB4 hrd
    go_wp2
    go_ret2
    exact ⟨_, _, _, _, _, _, _, _, _, rfl, by omega, by omega, hnc, hmd4, hO4, hQ4, hG4, hR4, by omega⟩
  · have s2' : ((x : Int) == 2) = false := by simp; omega
    clear s0 s1 s2
    have hQo := hQ2.own
    rw [hyl'.out] at hQo
    go_wp2
    go_ret2
    exact ⟨_, _, _, _, _, _, _, _, _, rfl, by omega, by omega, hnc, hmd, hO, hQo, hG2, hr2, by omega⟩

set_option maxHeartbeats 4000000 in
theorem l93Any_c (lo b p : Nat) (w : World) (h : Rdr w lo b p) (hp : p ≤ 300000) :
    Calls Try.prog 24 #[.pointer (some ⟨b, 0, none⟩)] w (DrawnList w lo b p 90) := by
  have hbz := h.lt
  go_enter Try.func24, Try.ntmps24
  go_wp2_with fail
  refine (pick_c lo b p _ _ h (by omega)).mono ?_
  rintro e w0 ⟨x0, rfl, _, hg0, hr0⟩
  have hz0 := hg0.size
  by_cases h0 : x0 = 0
  · have s0' : ((x0 : Int) == 0) = true := by simp; omega
    clear h0
    go_wp2_with fail
    refine (l91SumsWrong_c lo b (p + 1) _ hr0 (by omega)).mono ?_
    rintro e w1 ⟨R, n, c, Q, m, d, q, xs, ys, rfl, hn, hm, hnc, hmd, hB, hQ, hG, hR, hq⟩
    go_wp2
    go_ret2
    exact ⟨_, _, _, _, _, _, _, _, _, rfl, hn, hm, hnc, hmd, hB.mono hz0, hQ.mono hz0, grown_trans hg0 hG, hR, by omega⟩
  have s0' : ((x0 : Int) == 0) = false := by simp; omega
  clear h0
  go_wp2_with fail
  refine (pick_c lo b _ _ _ hr0 (by omega)).mono ?_
  rintro e w1 ⟨x1, rfl, hx1, hg1, hr1⟩
  go_wp2_with fail
  refine (pick_c lo b _ _ _ hr1 (by omega)).mono ?_
  rintro e w2 ⟨x2, rfl, hx2, hg2, hr2⟩
  have hy1 := hx1 (by omega)
  have hy2 := hx2 (by omega)
  have hz1 := hg1.size
  have hz2 := hg2.size
  have hG2 : w.grownBy ((w2.alloc (.cells #[] 3)).alloc (.cells #[] 3)) (some b) := grown_trans (grown_trans (grown_trans (grown_trans hg0 hg1) hg2) (grown_alloc _ _)) (grown_alloc _ _)
  have hP : Blk ((w2.alloc (.cells #[] 3)).alloc (.cells #[] 3)) w2.heap.size 3 #[] := (Blk.new w2 3 #[]).alloc (.cells #[] 3)
  have hQ : Blk ((w2.alloc (.cells #[] 3)).alloc (.cells #[] 3)) (w2.heap.size + 1) 3 #[] := heap_at2 w2 (.cells #[] 3) 3 #[]
  have hBp : Buf ((w2.alloc (.cells #[] 3)).alloc (.cells #[] 3)) w.heap.size (some ⟨w2.heap.size, 0, none⟩) 0 [] := ⟨rfl, .inr ⟨w2.heap.size, 0, #[], rfl, by omega, hP, Nat.le_refl _, Nat.zero_le _, rfl, rfl⟩⟩
  have hR2 : Rdr ((w2.alloc (.cells #[] 3)).alloc (.cells #[] 3)) lo b (p + 3) := (hr2.next ((Below.refl w2.heap.size w2).alloc (Nat.le_refl _) _)).next ((Below.refl _ _).alloc (Nat.le_refl _) _)
  obtain ⟨G2, hG2e⟩ : ∃ G2, G2 = w2.heap.size + 1 := ⟨_, rfl⟩
  have hG2w : w2.heap.size < G2 := by omega
  clear hx1 hx2 hg0 hg1 hg2 hr0 hr1 hr2 hP
  go_wp2
  rw [← hG2e] at hQ ⊢
  have hG2e' := Lib.hid hG2e; clear hG2e
  go_loopw [8, 10] (fun v i wr => ∃ (k : Nat) (A : Option Addr) (c : Nat) (xs : List Int), k ≤ 1 + x1 ∧ i = .int .i64 k ∧ v = .slice A k c ∧ xs.length = k ∧ Buf wr w.heap.size A c xs ∧
      Hid (∀ g, A = some ⟨g, 0, none⟩ → g ≠ G2) ∧ w.grownBy wr (some b) ∧ Rdr wr lo b (p + 3 + k) ∧ Blk wr G2 3 #[]) (fun _ i _ => 1 + x1 - (intOf i).toNat)
  case atStart => exact ⟨0, _, 0, [], Nat.zero_le _, rfl, rfl, rfl, hBp, Lib.hid (by rintro g ⟨⟩; omega), hG2, hR2, hQ⟩
  case round =>
    clear hBp hG2 hR2 hQ
    obtain ⟨k, A, c, xs, hk, rfl, rfl, hxl, hB, hA, hG, hR, hQ⟩ := hrel
    have hxl' := Lib.hid hxl; clear hxl
    have hzr := hG.size
    have hzq := hQ.lt
    by_cases hlt : k < 1 + x1
    · go_wp2_with fail
      refine (pick_c lo b (p + 3 + k) _ _ hR (by omega)).mono ?_
      rintro e w3 ⟨x3, rfl, _, hg3, hr3⟩
      have hB3 : Buf (w3.alloc (.cells #[.int .i64 (x3 : Int)] 3)) w.heap.size A c xs := (hB.kept hg3 (by intro g e e'; injection e'; have := hB.lt g e; omega)).next (by (repeat (first | exact Below.refl _ _ | assumption | refine lo_alloc ?_ _ | refine lo_set ?_ (by simp; try omega) _ | refine Below.drew ?_ | refine below_drewN ?_ _ | refine lo_trans ?_ (by assumption) | refine lo_wr ?_ (by assumption) (by omega))))
      have hr3' : Rdr (w3.alloc (.cells #[.int .i64 (x3 : Int)] 3)) lo b (p + 3 + k + 1) := hr3.next (by (repeat (first | exact Below.refl _ _ | assumption | refine lo_alloc ?_ _ | refine lo_set ?_ (by simp; try omega) _ | refine Below.drew ?_ | refine below_drewN ?_ _ | refine lo_trans ?_ (by assumption) | refine lo_wr ?_ (by assumption) (by omega))))
      have hQ3 : Blk (w3.alloc (.cells #[.int .i64 (x3 : Int)] 3)) G2 3 #[] := (hQ.grown hg3 (by intro e; injection e; omega)).alloc _
      have hG3 : w.grownBy (w3.alloc (.cells #[.int .i64 (x3 : Int)] 3)) (some b) := grown_trans (grown_trans hG hg3) (grown_alloc _ _)
      have hz3 := hg3.size
      have hrd : Rd (w3.alloc (.cells (ints [(x3 : Int)]) 3)) (some ⟨w3.heap.size, 0, none⟩) 1 [(x3 : Int)] := Rd.of_blk (Blk.new _ _ _)
      go_wp2_with (at_builtin; refine (wpl_append rfl _ _ rfl w.heap.size A c k xs rfl hxl'.out.symm hB3 _ 1 1 [(x3 : Int)] rfl hrd (by omega) (by omega) (by simp; omega) ?_); intro g c' w4 hB4 hg4 hat)
      have hz4 := hg4.size
      have hn4 := rowA_at hB3
      have hBk := rowA_ge hB3
      go_roundw
      case rel =>
        refine ⟨k + 1, _, c', _, by omega, by go_num, rfl, by simp [hxl'.out], hB4, Lib.hid ?_, grown_over hG3 hg4 (fun g hg => hBk g hg), hr3'.grownA hg4 (fun g hg => by have := hBk g hg; omega), hQ3.grown hg4 (fun e => hA.out _ (hn4 _ e.symm) rfl)⟩
        rintro g' ⟨⟩
        rcases hat with h | h
        · exact hA.out _ h
        · simp at h; omega
      case measure => simp [intOf]; omega
    · obtain ⟨k1, rfl⟩ : ∃ k1 : Nat, k1 = k := ⟨_, rfl⟩
      have hBq : Buf wr w.heap.size (some ⟨G2, 0, none⟩) 0 [] := ⟨rfl, .inr ⟨G2, 0, #[], rfl, by omega, hQ, Nat.le_refl _, Nat.zero_le _, rfl, rfl⟩⟩
      have hX := Lib.hid (show ∀ g, some (⟨G2, 0, none⟩ : Addr) = some ⟨g, 0, none⟩ → A ≠ some ⟨g, 0, none⟩ by
        rintro g ⟨⟩ e; exact hA.out _ e rfl)
      clear hQ hA
      obtain ⟨wo, rfl⟩ : ∃ wo : World, wo = wr := ⟨_, rfl⟩
      go_wp2
      go_loopw [9, 11] (fun v i wr => ∃ (k : Nat) (B : Option Addr) (d : Nat) (ys : List Int), k ≤ 1 + x2 ∧ i = .int .i64 k ∧ v = .slice B k d ∧ ys.length = k ∧ Buf wr w.heap.size B d ys ∧ Buf wr w.heap.size A c xs ∧
          Hid (∀ g, B = some ⟨g, 0, none⟩ → A ≠ some ⟨g, 0, none⟩) ∧ w.grownBy wr (some b) ∧ Rdr wr lo b (p + 3 + k1 + k)) (fun _ i _ => 1 + x2 - (intOf i).toNat)
      case atStart => exact ⟨0, _, 0, [], Nat.zero_le _, rfl, rfl, rfl, hBq, hB, hX, hG, hR⟩
      case round =>
        clear hB hX hG hR hzr hzq hBq
        obtain ⟨k, B, d, ys, hk, rfl, rfl, hyl, hBq, hB, hX, hG, hR⟩ := hrel
        have hyl' := Lib.hid hyl; clear hyl
        have hzr := hG.size
        by_cases hlt : k < 1 + x2
        · go_wp2_with fail
          refine (pick_c lo b (p + 3 + k1 + k) _ _ hR (by omega)).mono ?_
          rintro e w3 ⟨x3, rfl, _, hg3, hr3⟩
          have hB3 : Buf (w3.alloc (.cells #[.int .i64 (x3 : Int)] 3)) w.heap.size B d ys := (hBq.kept hg3 (by intro g e e'; injection e'; have := hBq.lt g e; omega)).next (by (repeat (first | exact Below.refl _ _ | assumption | refine lo_alloc ?_ _ | refine lo_set ?_ (by simp; try omega) _ | refine Below.drew ?_ | refine below_drewN ?_ _ | refine lo_trans ?_ (by assumption) | refine lo_wr ?_ (by assumption) (by omega))))
          have hA3 : Buf (w3.alloc (.cells #[.int .i64 (x3 : Int)] 3)) w.heap.size A c xs := (hB.kept hg3 (by intro g e e'; injection e'; have := hB.lt g e; omega)).next (by (repeat (first | exact Below.refl _ _ | assumption | refine lo_alloc ?_ _ | refine lo_set ?_ (by simp; try omega) _ | refine Below.drew ?_ | refine below_drewN ?_ _ | refine lo_trans ?_ (by assumption) | refine lo_wr ?_ (by assumption) (by omega))))
          have hr3' : Rdr (w3.alloc (.cells #[.int .i64 (x3 : Int)] 3)) lo b (p + 3 + k1 + k + 1) := hr3.next (by (repeat (first | exact Below.refl _ _ | assumption | refine lo_alloc ?_ _ | refine lo_set ?_ (by simp; try omega) _ | refine Below.drew ?_ | refine below_drewN ?_ _ | refine lo_trans ?_ (by assumption) | refine lo_wr ?_ (by assumption) (by omega))))
          have hG3 : w.grownBy (w3.alloc (.cells #[.int .i64 (x3 : Int)] 3)) (some b) := grown_trans (grown_trans hG hg3) (grown_alloc _ _)
          have hz3 := hg3.size
          have hrd : Rd (w3.alloc (.cells (ints [(x3 : Int)]) 3)) (some ⟨w3.heap.size, 0, none⟩) 1 [(x3 : Int)] := Rd.of_blk (Blk.new _ _ _)
          go_wp2_with (at_builtin; refine (wpl_append rfl _ _ rfl w.heap.size B d k ys rfl hyl'.out.symm hB3 _ 1 1 [(x3 : Int)] rfl hrd (by omega) (by omega) (by simp; omega) ?_); intro g c' w4 hB4 hg4 hat)
          have hz4 := hg4.size
          have hn4 := rowA_at hB3
          have hBk := rowA_ge hB3
          go_roundw
          case rel =>
            refine ⟨k + 1, _, c', _, by omega, by go_num, rfl, by simp [hyl'.out], hB4, hA3.kept hg4 (fun g e e' => hX.out g (hn4 g e') e), Lib.hid ?_, grown_over hG3 hg4 (fun g hg => hBk g hg), hr3'.grownA hg4 (fun g hg => by have := hBk g hg; omega)⟩
            rintro g' ⟨⟩ e
            rcases hat with h | h
            · exact hX.out _ h e
            · have := hA3.lt _ e; omega
          case measure => simp [intOf]; omega
        · have hncp := hB.le hxl'.out
          have hmdq := hBq.le hyl'.out
          have hOp := hB.own
          have hOq := hBq.own
          rw [hxl'.out] at hOp
          rw [hyl'.out] at hOq
          clear hB hBq hX
          go_wp2
          go_ret2
          exact ⟨_, _, _, _, _, _, _, _, _, rfl, by omega, by omega, hncp, hmdq, hOp, hOq, hG, hR, by omega⟩

def DrawnTwo (w : World) (e : Ending) (w' : World) : Prop :=
  ∃ (R : Option Addr) (n c : Nat) (Q : Option Addr) (m d : Nat) (xs ys : List Int), e = .returned (.tuple #[.slice R n c, .slice Q m d]) ∧ n ≤ 12 ∧ m ≤ 12 ∧ n ≤ c ∧ m ≤ d ∧
    Own w' w.heap.size R n xs ∧ Own w' w.heap.size Q m ys ∧ Below w.heap.size w w'
def DrawnThree (w : World) (e : Ending) (w' : World) : Prop :=
  ∃ (R : Option Addr) (n c : Nat) (Q : Option Addr) (m d : Nat) (xs ys : List Int) (t : Int), e = .returned (.tuple #[.slice R n c, .slice Q m d, .int .i64 t]) ∧ n ≤ 12 ∧ m ≤ 12 ∧ n ≤ c ∧ m ≤ d ∧
    Own w' w.heap.size R n xs ∧ Own w' w.heap.size Q m ys ∧ Below w.heap.size w w'

set_option maxHeartbeats 400000 in
theorem DrawProofOf_c (A : Option Addr) (n c : Nat) (w : World) (hr : RdB w A n) (hn : n ≤ 1048576) (hc : n ≤ c) :
    Calls Try.prog 9 #[.slice A n c] w (DrawnTwo w) := by
  go_enter Try.func9, Try.ntmps9
  go_wp2_with fail
  refine (l6Open_c A n c _ hr hn hc).mono ?_
  rintro e w1 ⟨b, rfl, hR1, hb1⟩
  have hz1 := hb1.size
  have hlo := hR1.1
  go_wp2_with fail
  refine (l93Any_c _ b 0 _ hR1 (by omega)).mono ?_
  rintro e w2 ⟨R, n, c, Q, m, d, q, xs, ys, rfl, hn, hm, hnc, hmd, hB, hQ, hG, hR, hq⟩
  go_wp2
  go_ret2
  exact ⟨_, _, _, _, _, _, _, _, rfl, hn, hm, hnc, hmd, hB.mono hz1, hQ.mono hz1, hb1.grown hG hz1 (by rintro _ ⟨⟩; exact hlo)⟩

set_option maxHeartbeats 400000 in
theorem DrawProofColumns_c (A : Option Addr) (n c : Nat) (w : World) (hr : RdB w A n) (hn : n ≤ 1048576) (hc : n ≤ c) :
    Calls Try.prog 20 #[.slice A n c] w (DrawnTwo w) := by
  go_enter Try.func20, Try.ntmps20
  go_wp2_with fail
  refine (l6Open_c A n c _ hr hn hc).mono ?_
  rintro e w1 ⟨b, rfl, hR1, hb1⟩
  have hz1 := hb1.size
  have hlo := hR1.1
  go_wp2_with fail
  refine (l93Any_c _ b 0 _ hR1 (by omega)).mono ?_
  rintro e w2 ⟨R, n, c, Q, m, d, q, xs, ys, rfl, hn, hm, hnc, hmd, hB, hQ, hG, hR, hq⟩
  go_wp2
  go_ret2
  exact ⟨_, _, _, _, _, _, _, _, rfl, hn, hm, hnc, hmd, hB.mono hz1, hQ.mono hz1, hb1.grown hG hz1 (by rintro _ ⟨⟩; exact hlo)⟩

set_option maxHeartbeats 2000000 in
theorem DrawProofOk_c (A : Option Addr) (n c : Nat) (w : World) (hr : RdB w A n) (hn : n ≤ 1048576) (hc : n ≤ c) :
    Calls Try.prog 16 #[.slice A n c] w (DrawnThree w) := by
  go_enter Try.func16, Try.ntmps16
  go_wp2_with fail
  refine (l6Open_c A n c _ hr hn hc).mono ?_
  rintro e w1 ⟨b, rfl, hR1, hb1⟩
  have hz1 := hb1.size
  have hlo := hR1.1
  go_wp2_with fail
  refine (l93Any_c _ b 0 _ hR1 (by omega)).mono ?_
  rintro e w2 ⟨R, n, c, Q, m, d, q, xs, ys, rfl, hn, hm, hnc, hmd, hB, hQ, hG, hR, hq⟩
  have hb2 : Below w.heap.size w w2 := hb1.grown hG hz1 (by rintro _ ⟨⟩; exact hlo)
  have hB2 := hB
  have hQ2 := hQ
  have hz2 := hG.size
  have hbl := hR1.lt
  clear hb1 hB hQ hG hR1
  have ho : pVal (pOf xs ys) = .tuple #[.int .i64 ((pOf xs ys).getD 0 : Nat), .bool (pOf xs ys).isSome] := rfl
  go_wp2_with fail
  refine (spec_ProofOf_c _ _ _ _ _ _ xs ys _ hB2.rd hQ2.rd (by omega) (by omega)).mono ?_
  rw [ho]
  clear ho
  generalize (pOf xs ys).getD 0 = t
  generalize (pOf xs ys).isSome = k
  rintro e w3 ⟨rfl, hb3⟩
  have hb3' := lo_trans hb2 (hb3.mono (by omega))
  have hB3 := hB2.next hb3
  have hQ3 := hQ2.next hb3
  have hR3 := hR.next hb3
  clear hb2 hB2 hQ2 hR hb3
  cases k with
  | true =>
    go_wp2_with fail
    refine (pick_c _ b q _ _ hR3 (by omega)).mono ?_
    rintro e w4 ⟨x, rfl, _, hg4, hr4⟩
    have hB4 := hB3.grown_lo hg4 (by rintro _ ⟨⟩; exact hbl)
    have hQ4 := hQ3.grown_lo hg4 (by rintro _ ⟨⟩; exact hbl)
    have hs3 := hb3'.size
    have hb4 : Below w.heap.size w w4 := hb3'.grown hg4 hs3 (by rintro _ ⟨⟩; exact hlo)
    clear hB3 hQ3 hR3 hg4
    by_cases h0 : 0 < x
    · have h0' : (0 : Int) < (x : Int) := by omega
      clear h0
      go_wp2
      go_ret3
      exact ⟨_, _, _, _, _, _, _, _, _, rfl, hn, hm, hnc, hmd, hB4.mono hz1, hQ4.mono hz1, hb4⟩
    · obtain rfl : x = 0 := by omega
      go_wp2_with fail
      refine (pick_c _ b _ _ _ hr4 (by omega)).mono ?_
      rintro e w5 ⟨y, rfl, hy, hg5, hr5⟩
      have hy' := hy (by omega)
      clear hy
      have hB5 := hB4.grown_lo hg5 (by rintro _ ⟨⟩; exact hbl)
      have hQ5 := hQ4.grown_lo hg5 (by rintro _ ⟨⟩; exact hbl)
      have hs4 := hb4.size
      have hb5 : Below w.heap.size w w5 := hb4.grown hg5 hs4 (by rintro _ ⟨⟩; exact hlo)
      clear hB4 hQ4 hr4 hg5 hb4 hr5
      go_wp2
      go_ret3
      exact ⟨_, _, _, _, _, _, _, _, _, rfl, hn, hm, hnc, hmd, hB5.mono hz1, hQ5.mono hz1, hb5⟩
  | false =>
    go_wp2_with fail
    refine (pick_c _ b q _ _ hR3 (by omega)).mono ?_
    rintro e w5 ⟨y, rfl, hy, hg5, hr5⟩
    have hy' := hy (by omega)
    clear hy
    have hB5 := hB3.grown_lo hg5 (by rintro _ ⟨⟩; exact hbl)
    have hQ5 := hQ3.grown_lo hg5 (by rintro _ ⟨⟩; exact hbl)
    have hs4 := hb3'.size
    have hb5 : Below w.heap.size w w5 := hb3'.grown hg5 hs4 (by rintro _ ⟨⟩; exact hlo)
    clear hB3 hQ3 hR3 hg5 hb3' hr5
    go_wp2
    go_ret3
    exact ⟨_, _, _, _, _, _, _, _, _, rfl, hn, hm, hnc, hmd, hB5.mono hz1, hQ5.mono hz1, hb5⟩
end Go.Proofs.Ytljmlhcmjgepcaa
