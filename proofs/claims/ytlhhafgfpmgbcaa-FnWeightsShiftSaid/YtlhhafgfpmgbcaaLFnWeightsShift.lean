/- The law FnWeightsShift walked. -/
import Derived.Test.YtlhhafgfpmgbcaaDv
import Derived.Test.YtlhhafgfpmgbcaaWg
import Derived.Test.YtlhhafgfpmgbcaaMathE
namespace Go.Proofs.Ytlhhafgfpmgbcaa
open Go.RowKit

set_option maxHeartbeats 4000000 in
theorem law_WeightsShift (A : Option Addr) (n c : Nat) (w : World) (hr : RdB w A n) (hb : n ≤ maxLen ∧ n ≤ c) :
    Calls Try.prog 6 #[.slice A n c] w fun e w' => e = .returned (.bool true) ∧ Below w.heap.size w w' := by
  by_cases h1 : 1048576 < n
  · go_enter Try.func6, Try.ntmps6
    go_wp2
    go_ret
    exact ⟨rfl, by (repeat (first | exact Below.refl _ _ | assumption | refine lo_alloc ?_ _ | refine lo_set ?_ (by simp; try omega) _ | refine Below.drew ?_ | refine below_drewN ?_ _ | refine lo_trans ?_ (by assumption) | refine lo_wr ?_ (by assumption) (by omega)))⟩
  go_enter Try.func6, Try.ntmps6
  go_wp2_with fail
  refine (DrawWeightsFit_c A n c _ hr (by omega) hb.2).mono ?_
  rintro e w1 ⟨W, X, x, x', P, l, a, Q, m, b, xs, p, q, rfl, hx6, hl, hm, hX, hP, hQ, hb1⟩
  have hs1 := hb1.size
  have hkA := Blk.new w1 24 #[.int .i64 W, .slice X x x']
  have hbA := lo_alloc (Below.refl w1.heap.size w1) (.cells #[.int .i64 W, .slice X x x'] 24)
  have hbAz : w1.heap.size < (w1.alloc (.cells #[.int .i64 W, .slice X x x'] 24)).heap.size := by simp
  go_wp2_with fail
  generalize w1.alloc (.cells #[.int .i64 W, .slice X x x'] 24) = wA at hkA hbA hbAz  ⊢
  refine (impl_WeightsFit_c _ _ _ _ _ _ _ _ _ _ xs p q _ (hX.next (by (repeat (first | exact Below.refl _ _ | assumption | refine lo_alloc ?_ _ | refine lo_set ?_ (by simp; try omega) _ | refine Below.drew ?_ | refine below_drewN ?_ _ | refine lo_trans ?_ (by assumption) | refine lo_wr ?_ (by assumption) (by omega))))).rd (hP.next (by (repeat (first | exact Below.refl _ _ | assumption | refine lo_alloc ?_ _ | refine lo_set ?_ (by simp; try omega) _ | refine Below.drew ?_ | refine below_drewN ?_ _ | refine lo_trans ?_ (by assumption) | refine lo_wr ?_ (by assumption) (by omega))))).rd (hQ.next (by (repeat (first | exact Below.refl _ _ | assumption | refine lo_alloc ?_ _ | refine lo_set ?_ (by simp; try omega) _ | refine Below.drew ?_ | refine below_drewN ?_ _ | refine lo_trans ?_ (by assumption) | refine lo_wr ?_ (by assumption) (by omega))))).rd (by omega) (by omega) (by omega)).mono ?_
  rintro e w2 ⟨rfl, hb2⟩
  have hs2 := hb2.size
  have kA2 : Blk w2 w1.heap.size _ _ := hkA.next hb2
  have a0 := kA2.cell 0
  have a1 := kA2.cell 1
  go_wp2_with fail
  refine (spec_WeightsFit_c _ _ _ _ _ _ _ _ _ _ xs p q _ (hX.next (by (repeat (first | exact Below.refl _ _ | assumption | refine lo_alloc ?_ _ | refine lo_set ?_ (by simp; try omega) _ | refine Below.drew ?_ | refine below_drewN ?_ _ | refine lo_trans ?_ (by assumption) | refine lo_wr ?_ (by assumption) (by omega))))).rd (hP.next (by (repeat (first | exact Below.refl _ _ | assumption | refine lo_alloc ?_ _ | refine lo_set ?_ (by simp; try omega) _ | refine Below.drew ?_ | refine below_drewN ?_ _ | refine lo_trans ?_ (by assumption) | refine lo_wr ?_ (by assumption) (by omega))))).rd (hQ.next (by (repeat (first | exact Below.refl _ _ | assumption | refine lo_alloc ?_ _ | refine lo_set ?_ (by simp; try omega) _ | refine Below.drew ?_ | refine below_drewN ?_ _ | refine lo_trans ?_ (by assumption) | refine lo_wr ?_ (by assumption) (by omega))))).rd (by omega) (by omega) (by omega)).mono ?_
  rintro e w3 ⟨rfl, hb3⟩
  have hs3 := hb3.size
  clear a0 a1
  cases hF : wFit W xs p q with
  | false =>
    go_wp2
    go_ret
    exact ⟨rfl, by (repeat (first | exact Below.refl _ _ | assumption | refine lo_alloc ?_ _ | refine lo_set ?_ (by simp; try omega) _ | refine Below.drew ?_ | refine below_drewN ?_ _ | refine lo_trans ?_ (by assumption) | refine lo_wr ?_ (by assumption) (by omega)))⟩
  | true =>
    have hF' := Lib.hid hF; clear hF
    have hwp := Lib.hid (wOk_parts (wFit_parts hF'.out).1)
    have kA3 : Blk w3 w1.heap.size _ _ := kA2.next hb3
    have X3 : Own w3 _ X x xs := hX.next (by (repeat (first | exact Below.refl _ _ | assumption | refine lo_alloc ?_ _ | refine lo_set ?_ (by simp; try omega) _ | refine Below.drew ?_ | refine below_drewN ?_ _ | refine lo_trans ?_ (by assumption) | refine lo_wr ?_ (by assumption) (by omega))))
    have P3 : Own w3 _ P l p := hP.next (by (repeat (first | exact Below.refl _ _ | assumption | refine lo_alloc ?_ _ | refine lo_set ?_ (by simp; try omega) _ | refine Below.drew ?_ | refine below_drewN ?_ _ | refine lo_trans ?_ (by assumption) | refine lo_wr ?_ (by assumption) (by omega))))
    have Q3 : Own w3 _ Q m q := hQ.next (by (repeat (first | exact Below.refl _ _ | assumption | refine lo_alloc ?_ _ | refine lo_set ?_ (by simp; try omega) _ | refine Below.drew ?_ | refine below_drewN ?_ _ | refine lo_trans ?_ (by assumption) | refine lo_wr ?_ (by assumption) (by omega))))
    have H0 : Below w.heap.size w w3 := by (repeat (first | exact Below.refl _ _ | assumption | refine lo_alloc ?_ _ | refine lo_set ?_ (by simp; try omega) _ | refine Below.drew ?_ | refine below_drewN ?_ _ | refine lo_trans ?_ (by assumption) | refine lo_wr ?_ (by assumption) (by omega)))
    have hzA := kA3.lt
    clear hb1 hbA hb2 hb3 hX hP hQ kA2 hkA
    obtain ⟨s, hs⟩ : ∃ s, s = w3.heap.size := ⟨_, rfl⟩
    have hB0 : Below w3.heap.size w3 ((w3.alloc (.cells #[] 3)).alloc (.cells #[] 3)) := by (repeat (first | exact Below.refl _ _ | assumption | refine lo_alloc ?_ _ | refine lo_set ?_ (by simp; try omega) _ | refine Below.drew ?_ | refine below_drewN ?_ _ | refine lo_trans ?_ (by assumption) | refine lo_wr ?_ (by assumption) (by omega)))
    have hx0 : Buf ((w3.alloc (.cells #[] 3)).alloc (.cells #[] 3)) s (some ⟨s, 0, none⟩) 0 [] := by
      rw [hs]; exact ⟨rfl, .inr ⟨w3.heap.size, 0, #[], rfl, Nat.le_refl _, (Blk.new w3 3 #[]).alloc _, Nat.le_refl _, Nat.zero_le _, rfl, rfl⟩⟩
    have hy0 : Blk ((w3.alloc (.cells #[] 3)).alloc (.cells #[] 3)) (s + 1) 3 #[] := by rw [hs]; exact heap_at2 _ _ _ _
    have hsl : s ≤ w3.heap.size := by omega
    have hsg : w3.heap.size ≤ s := by omega
    go_wp2_with fail
    rw [← hs]
    have hs' := Lib.hid hs; clear hs
    go_loopw [8, 10] (fun v i wr => ∃ (k : Nat) (A : Option Addr) (c : Nat), k ≤ l ∧ i = .int .i64 k ∧ v = .slice A k c ∧ Buf wr s A c ((p.take k).map (fun x => x + 5)) ∧ Hid (∀ g, A = some ⟨g, 0, none⟩ → g ≠ s + 1) ∧
        Below w3.heap.size w3 wr ∧ Blk wr (s + 1) 3 #[] ∧ Hid (∀ j, j < k → -90 ≤ p[j]?.getD 0 ∧ p[j]?.getD 0 ≤ 90)) (fun _ i _ => l - (intOf i).toNat)
    case atStart => exact ⟨0, _, 0, Nat.zero_le _, rfl, rfl, hx0, Lib.hid (by rintro g ⟨⟩; omega), hB0, hy0, Lib.hid (fun j h => absurd h (by omega))⟩
    case round =>
      clear hx0 hB0 hy0
      obtain ⟨k, A', c', hk, rfl, rfl, hB, hA, hW, hY, hall⟩ := hrel
      have hzr := hW.size
      have hzy := hY.lt
      by_cases hlt : k < l
      · obtain ⟨gp, rfl, _, _, cp, _, _⟩ := (P3.next hW).at_ hlt
        have hpb := wIn_at hwp.out.1 k (by rw [P3.1]; exact hlt)
        have hlen : Hid (k = ((p.take k).map (fun x => x + 5)).length) := Lib.hid (by simp; have := P3.1; omega)
        have hsn := Lib.hid (map_snoc p (fun x => x + 5) (k := k) (by rw [P3.1]; exact hlt))
        have hB3 : Buf (wr.alloc (.cells #[.int .i64 (p[k]?.getD 0 + 5)] 3)) s A' c' ((p.take k).map (fun x => x + 5)) := hB.next (by (repeat (first | exact Below.refl _ _ | assumption | refine lo_alloc ?_ _ | refine lo_set ?_ (by simp; try omega) _ | refine Below.drew ?_ | refine below_drewN ?_ _ | refine lo_trans ?_ (by assumption) | refine lo_wr ?_ (by assumption) (by omega))))
        have hY3 : Blk (wr.alloc (.cells #[.int .i64 (p[k]?.getD 0 + 5)] 3)) (s + 1) 3 #[] := hY.alloc _
        have hW3 : Below w3.heap.size w3 (wr.alloc (.cells #[.int .i64 (p[k]?.getD 0 + 5)] 3)) := lo_alloc hW _
        have hrd : Rd (wr.alloc (.cells (ints [p[k]?.getD 0 + 5]) 3)) (some ⟨wr.heap.size, 0, none⟩) 1 [p[k]?.getD 0 + 5] := Rd.of_blk (Blk.new _ _ _)
        have hn4 := rowA_at hB3
        have hBk := rowA_ge hB3
        clear hW hB hY
        by_cases h90 : 90 < p[k]?.getD 0
        · go_wp2_with (at_builtin; refine (wpl_append rfl _ _ rfl s A' c' k _ rfl hlen.out hB3 _ 1 1 [p[k]?.getD 0 + 5] rfl hrd (by omega) (by omega) (by simp; omega) ?_); intro g c4 w4 hB4 hg4 hat; have hW4 := hW3.grown hg4 hW3.size (fun g hg => by have := hBk g hg; omega); have cp4 := (P3.next hW4).cellAt hlt)
          go_ret
          exact ⟨rfl, lo_trans H0 hW4⟩
        by_cases h91 : p[k]?.getD 0 < -90
        · go_wp2_with (at_builtin; refine (wpl_append rfl _ _ rfl s A' c' k _ rfl hlen.out hB3 _ 1 1 [p[k]?.getD 0 + 5] rfl hrd (by omega) (by omega) (by simp; omega) ?_); intro g c4 w4 hB4 hg4 hat; have hW4 := hW3.grown hg4 hW3.size (fun g hg => by have := hBk g hg; omega); have cp4 := (P3.next hW4).cellAt hlt)
          go_ret
          exact ⟨rfl, lo_trans H0 hW4⟩
        have hN : Hid (∀ j, j < k + 1 → -90 ≤ p[j]?.getD 0 ∧ p[j]?.getD 0 ≤ 90) := Lib.hid (fun j hj => by
          rcases Nat.lt_or_ge j k with h | h
          · exact hall.out j h
          · obtain rfl : j = k := by omega
            omega)
        go_wp2_with (at_builtin; refine (wpl_append rfl _ _ rfl s A' c' k _ rfl hlen.out hB3 _ 1 1 [p[k]?.getD 0 + 5] rfl hrd (by omega) (by omega) (by simp; omega) ?_); intro g c4 w4 hB4 hg4 hat; have hW4 := hW3.grown hg4 hW3.size (fun g hg => by have := hBk g hg; omega); have cp4 := (P3.next hW4).cellAt hlt)
        rw [hsn.out] at hB4
        go_roundw
        case rel =>
          refine ⟨k + 1, _, c4, by omega, by go_num, rfl, hB4, Lib.hid ?_, hW4, hY3.grown hg4 (fun e => hA.out _ (hn4 _ e.symm) rfl), hN⟩
          rintro g' ⟨⟩
          rcases hat with h | h
          · exact hA.out _ h
          · simp at h; omega
        case measure => simp [intOf]; omega
      · obtain ⟨k1, rfl⟩ : ∃ k1 : Nat, k1 = k := ⟨_, rfl⟩
        have hy1 : Buf wr s (some ⟨s + 1, 0, none⟩) 0 [] := ⟨rfl, .inr ⟨s + 1, 0, #[], rfl, by omega, hY, Nat.le_refl _, Nat.zero_le _, rfl, rfl⟩⟩
        have hX1 := Lib.hid (show ∀ g, some (⟨s + 1, 0, none⟩ : Addr) = some ⟨g, 0, none⟩ → A' ≠ some ⟨g, 0, none⟩ by
          rintro g ⟨⟩ e; exact hA.out _ e rfl)
        have hk1 : Hid (k1 = l) := Lib.hid (by omega)
        clear hY hA hzy hzr
        obtain ⟨wo, rfl⟩ : ∃ wo : World, wo = wr := ⟨_, rfl⟩
        go_wp2
        go_loopw [9, 11] (fun v i wr => ∃ (k : Nat) (B : Option Addr) (d : Nat), k ≤ m ∧ i = .int .i64 k ∧ v = .slice B k d ∧ Buf wr s B d ((q.take k).map (fun x => x - 5)) ∧ Buf wr s A' c' ((p.take k1).map (fun x => x + 5)) ∧
            Hid (∀ g, B = some ⟨g, 0, none⟩ → A' ≠ some ⟨g, 0, none⟩) ∧ Below w3.heap.size w3 wr ∧ Hid (∀ j, j < k → -90 ≤ q[j]?.getD 0 ∧ q[j]?.getD 0 ≤ 90)) (fun _ i _ => m - (intOf i).toNat)
        case atStart => exact ⟨0, _, 0, Nat.zero_le _, rfl, rfl, hy1, hB, hX1, hW, Lib.hid (fun j h => absurd h (by omega))⟩
        case round =>
          clear hy1 hB hX1 hW
          obtain ⟨k, B, d, hk, rfl, rfl, hBq, hBp, hX1, hW, hall2⟩ := hrel
          have hzr := hW.size
          by_cases hlt2 : k < m
          · obtain ⟨gq, rfl, _, _, cq, _, _⟩ := (Q3.next hW).at_ hlt2
            have hqb := wIn_at hwp.out.2.1 k (by rw [Q3.1]; exact hlt2)
            have hlen : Hid (k = ((q.take k).map (fun x => x - 5)).length) := Lib.hid (by simp; have := Q3.1; omega)
            have hsn := Lib.hid (map_snoc q (fun x => x - 5) (k := k) (by rw [Q3.1]; exact hlt2))
            have hB3 : Buf (wr.alloc (.cells #[.int .i64 (q[k]?.getD 0 - 5)] 3)) s B d ((q.take k).map (fun x => x - 5)) := hBq.next (by (repeat (first | exact Below.refl _ _ | assumption | refine lo_alloc ?_ _ | refine lo_set ?_ (by simp; try omega) _ | refine Below.drew ?_ | refine below_drewN ?_ _ | refine lo_trans ?_ (by assumption) | refine lo_wr ?_ (by assumption) (by omega))))
            have hA3 : Buf (wr.alloc (.cells #[.int .i64 (q[k]?.getD 0 - 5)] 3)) s A' c' ((p.take k1).map (fun x => x + 5)) := hBp.next (by (repeat (first | exact Below.refl _ _ | assumption | refine lo_alloc ?_ _ | refine lo_set ?_ (by simp; try omega) _ | refine Below.drew ?_ | refine below_drewN ?_ _ | refine lo_trans ?_ (by assumption) | refine lo_wr ?_ (by assumption) (by omega))))
            have hW3 : Below w3.heap.size w3 (wr.alloc (.cells #[.int .i64 (q[k]?.getD 0 - 5)] 3)) := lo_alloc hW _
            have hrd : Rd (wr.alloc (.cells (ints [q[k]?.getD 0 - 5]) 3)) (some ⟨wr.heap.size, 0, none⟩) 1 [q[k]?.getD 0 - 5] := Rd.of_blk (Blk.new _ _ _)
            have hn4 := rowA_at hB3
            have hBk := rowA_ge hB3
            clear hW hBq hBp
            by_cases h90 : 90 < q[k]?.getD 0
            · go_wp2_with (at_builtin; refine (wpl_append rfl _ _ rfl s B d k _ rfl hlen.out hB3 _ 1 1 [q[k]?.getD 0 - 5] rfl hrd (by omega) (by omega) (by simp; omega) ?_); intro g c4 w4 hB4 hg4 hat; have hW4 := hW3.grown hg4 hW3.size (fun g hg => by have := hBk g hg; omega); have cp4 := (Q3.next hW4).cellAt hlt2)
              go_ret
              exact ⟨rfl, lo_trans H0 hW4⟩
            by_cases h91 : q[k]?.getD 0 < -90
            · go_wp2_with (at_builtin; refine (wpl_append rfl _ _ rfl s B d k _ rfl hlen.out hB3 _ 1 1 [q[k]?.getD 0 - 5] rfl hrd (by omega) (by omega) (by simp; omega) ?_); intro g c4 w4 hB4 hg4 hat; have hW4 := hW3.grown hg4 hW3.size (fun g hg => by have := hBk g hg; omega); have cp4 := (Q3.next hW4).cellAt hlt2)
              go_ret
              exact ⟨rfl, lo_trans H0 hW4⟩
            have hN : Hid (∀ j, j < k + 1 → -90 ≤ q[j]?.getD 0 ∧ q[j]?.getD 0 ≤ 90) := Lib.hid (fun j hj => by
              rcases Nat.lt_or_ge j k with h | h
              · exact hall2.out j h
              · obtain rfl : j = k := by omega
                omega)
            go_wp2_with (at_builtin; refine (wpl_append rfl _ _ rfl s B d k _ rfl hlen.out hB3 _ 1 1 [q[k]?.getD 0 - 5] rfl hrd (by omega) (by omega) (by simp; omega) ?_); intro g c4 w4 hB4 hg4 hat; have hW4 := hW3.grown hg4 hW3.size (fun g hg => by have := hBk g hg; omega); have cp4 := (Q3.next hW4).cellAt hlt2)
            rw [hsn.out] at hB4
            go_roundw
            case rel =>
              refine ⟨k + 1, _, c4, by omega, by go_num, rfl, hB4, hA3.kept hg4 (fun g e e' => hX1.out g (hn4 g e') e), Lib.hid ?_, hW4, hN⟩
              rintro g' ⟨⟩ e
              rcases hat with h | h
              · exact hX1.out _ h e
              · have := hA3.lt _ e; omega
            case measure => simp [intOf]; omega
          · have hkm : Hid (k = m) := Lib.hid (by omega)
            have hOp := hBp.own
            have hOq := hBq.own
            rw [List.take_of_length_le (by have := P3.1; have := hk1.out; omega)] at hOp
            rw [List.take_of_length_le (by have := Q3.1; have := hkm.out; omega)] at hOq
            rw [List.length_map] at hOp hOq
            have e1 : p.length = k1 := by have := P3.1; have := hk1.out; omega
            have e2 : q.length = k := by have := Q3.1; have := hkm.out; omega
            rw [e1] at hOp
            rw [e2] at hOq
            have hM := Lib.hid (wFit_shift hF'.out (fun j hj => hall.out j (by omega)) (fun j hj => hall2.out j (by omega)))
            clear e1 e2
            have a0 := (kA3.next hW).cell 0
            have a1 := (kA3.next hW).cell 1
            go_wp2_with fail
            refine (impl_WeightsFit_c _ _ _ _ _ _ _ _ _ _ xs _ _ _ (X3.next hW).rd hOp.rd hOq.rd (by omega) (by omega) (by omega)).mono ?_
            rw [hM.out]
            rintro e w5 ⟨rfl, hb5⟩
            go_wp2
            go_ret
            exact ⟨rfl, lo_trans (lo_trans H0 hW) hb5⟩
end Go.Proofs.Ytlhhafgfpmgbcaa
