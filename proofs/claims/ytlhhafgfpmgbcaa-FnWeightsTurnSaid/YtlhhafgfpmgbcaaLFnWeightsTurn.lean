/- The law FnWeightsTurn walked. -/
import Derived.Test.YtlhhafgfpmgbcaaDv
import Derived.Test.YtlhhafgfpmgbcaaWg
import Derived.Test.YtlhhafgfpmgbcaaMathH
namespace Go.Proofs.Ytlhhafgfpmgbcaa
open Go.RowKit

set_option maxHeartbeats 4000000 in
theorem law_WeightsTurn (A : Option Addr) (n c : Nat) (w : World) (hr : RdB w A n) (hb : n ≤ maxLen ∧ n ≤ c) :
    Calls Try.prog 9 #[.slice A n c] w fun e w' => e = .returned (.bool true) ∧ Below w.heap.size w w' := by
  by_cases h1 : 1048576 < n
  · go_enter Try.func9, Try.ntmps9
    go_wp2
    go_ret
    exact ⟨rfl, by (repeat (first | exact Below.refl _ _ | assumption | refine lo_alloc ?_ _ | refine lo_set ?_ (by simp; try omega) _ | refine Below.drew ?_ | refine below_drewN ?_ _ | refine lo_trans ?_ (by assumption) | refine lo_wr ?_ (by assumption) (by omega)))⟩
  go_enter Try.func9, Try.ntmps9
  go_wp2_with fail
  refine (DrawWeightsFit_c A n c _ hr (by omega) hb.2).mono ?_
  rintro e w1 ⟨W, X, x, x', P, l, a, Q, m, b, xs, p, q, rfl, hx6, hl, hm, hX, hP, hQ, hb1⟩
  have hs1 := hb1.size
  have hkA := Blk.new w1 24 #[.int .i64 W, .slice X x x']
  have hbA := lo_alloc (Below.refl w1.heap.size w1) (.cells #[.int .i64 W, .slice X x x'] 24)
  have hbAz : w1.heap.size < (w1.alloc (.cells #[.int .i64 W, .slice X x x'] 24)).heap.size := by simp
  go_wp2_with fail
  generalize w1.alloc (.cells #[.int .i64 W, .slice X x x'] 24) = wA at hkA hbA hbAz  ⊢
  refine (impl_WeightsFit_c _ _ _ _ _ _ _ _ _ _ xs p q _ (hX.next (by (repeat (first | exact Below.refl _ _ | assumption | refine lo_alloc ?_ _ | refine lo_set ?_ (by simp; try omega) _ | refine Below.drew ?_ | refine below_drewN ?_ _ | refine lo_trans ?_ (by assumption) | refine lo_wr ?_ (by assumption) (by omega))))).rd (hP.next (by (repeat (first | exact Below.refl _ _ | assumption | refine lo_alloc ?_ _ | refine lo_set ?_ (by simp; try omega) _ | refine Below.drew ?_ | refine below_drewN ?_ _ | refine lo_trans ?_ (by assumption) | refine lo_wr ?_ (by assumption) (by omega))))).rd (hQ.next (by (repeat (first | exact Below.refl _ _ | assumption | refine lo_alloc ?_ _ | refine lo_set ?_ (by simp; try omega) _ | refine Below.drew ?_ | refine below_drewN ?_ _ | refine lo_trans ?_ (by assumption) | refine lo_wr ?_ (by assumption) (by omega))))).rd (by omega) (by omega) (by omega)).mono ?_
  rintro e w2 ⟨rfl, hb2⟩
  have hs2 := hb2.size
  have kA2 : Blk w2 w1.heap.size _ _ := hkA.next hb2
  have a0 := kA2.cell 0
  have a1 := kA2.cell 1
  go_wp2_with fail
  refine (spec_WeightsFit_c _ _ _ _ _ _ _ _ _ _ xs p q _ (hX.next (by (repeat (first | exact Below.refl _ _ | assumption | refine lo_alloc ?_ _ | refine lo_set ?_ (by simp; try omega) _ | refine Below.drew ?_ | refine below_drewN ?_ _ | refine lo_trans ?_ (by assumption) | refine lo_wr ?_ (by assumption) (by omega))))).rd (hP.next (by (repeat (first | exact Below.refl _ _ | assumption | refine lo_alloc ?_ _ | refine lo_set ?_ (by simp; try omega) _ | refine Below.drew ?_ | refine below_drewN ?_ _ | refine lo_trans ?_ (by assumption) | refine lo_wr ?_ (by assumption) (by omega))))).rd (hQ.next (by (repeat (first | exact Below.refl _ _ | assumption | refine lo_alloc ?_ _ | refine lo_set ?_ (by simp; try omega) _ | refine Below.drew ?_ | refine below_drewN ?_ _ | refine lo_trans ?_ (by assumption) | refine lo_wr ?_ (by assumption) (by omega))))).rd (by omega) (by omega) (by omega)).mono ?_
  rintro e w3 ⟨rfl, hb3⟩
  have hs3 := hb3.size
  clear a0 a1
  cases hF : wFit W xs p q with
  | false =>
    go_wp2
    go_ret
    exact ⟨rfl, by (repeat (first | exact Below.refl _ _ | assumption | refine lo_alloc ?_ _ | refine lo_set ?_ (by simp; try omega) _ | refine Below.drew ?_ | refine below_drewN ?_ _ | refine lo_trans ?_ (by assumption) | refine lo_wr ?_ (by assumption) (by omega)))⟩
  | true =>
    have hF' := Lib.hid hF; clear hF
    have hwp := Lib.hid (wOk_parts (wFit_parts hF'.out).1)
    have kA3 : Blk w3 w1.heap.size _ _ := kA2.next hb3
    have X3 : Own w3 _ X x xs := hX.next (by (repeat (first | exact Below.refl _ _ | assumption | refine lo_alloc ?_ _ | refine lo_set ?_ (by simp; try omega) _ | refine Below.drew ?_ | refine below_drewN ?_ _ | refine lo_trans ?_ (by assumption) | refine lo_wr ?_ (by assumption) (by omega))))
    have P3 : Own w3 _ P l p := hP.next (by (repeat (first | exact Below.refl _ _ | assumption | refine lo_alloc ?_ _ | refine lo_set ?_ (by simp; try omega) _ | refine Below.drew ?_ | refine below_drewN ?_ _ | refine lo_trans ?_ (by assumption) | refine lo_wr ?_ (by assumption) (by omega))))
    have Q3 : Own w3 _ Q m q := hQ.next (by (repeat (first | exact Below.refl _ _ | assumption | refine lo_alloc ?_ _ | refine lo_set ?_ (by simp; try omega) _ | refine Below.drew ?_ | refine below_drewN ?_ _ | refine lo_trans ?_ (by assumption) | refine lo_wr ?_ (by assumption) (by omega))))
    have a0 := kA3.cell 0
    have a1 := kA3.cell 1
    go_wp2_with fail
    refine (ImageTurn_c _ _ _ _ xs _ X3.rd (by omega)).mono ?_
    rw [(wFit_parts hF'.out).2.1]
    rintro e w5 ⟨R1, r1, d1, rfl, hb5, ho5⟩
    have hs5 := hb5.size
    clear a0 a1
    have kA5 := (kA3.next hb5).alloc (.cells #[.int .i64 (turnW W xs), .slice R1 r1 d1] 24)
    have a0 := kA5.cell 0
    have a1 := kA5.cell 1
    have hkB := Blk.new w5 24 #[.int .i64 (turnW W xs), .slice R1 r1 d1]
    have hbB := lo_alloc (Below.refl w5.heap.size w5) (.cells #[.int .i64 (turnW W xs), .slice R1 r1 d1] 24)
    have hbBz : w5.heap.size < (w5.alloc (.cells #[.int .i64 (turnW W xs), .slice R1 r1 d1] 24)).heap.size := by simp
    go_wp2_with fail
    generalize w5.alloc (.cells #[.int .i64 (turnW W xs), .slice R1 r1 d1] 24) = wB at hkB hbB hbBz kA5 a0 a1 ⊢
    refine (ImageOther_c _ _ _ _ xs _ (X3.next (by (repeat (first | exact Below.refl _ _ | assumption | refine lo_alloc ?_ _ | refine lo_set ?_ (by simp; try omega) _ | refine Below.drew ?_ | refine below_drewN ?_ _ | refine lo_trans ?_ (by assumption) | refine lo_wr ?_ (by assumption) (by omega))))).rd (by omega)).mono ?_
    rw [(wFit_parts hF'.out).2.1]
    rintro e w6 ⟨R2, r2, d2, rfl, hb6, ho6⟩
    have hs6 := hb6.size
    clear a0 a1
    have hkC := Blk.new w6 24 #[.int .i64 (otherW W xs), .slice R2 r2 d2]
    have hbC := lo_alloc (Below.refl w6.heap.size w6) (.cells #[.int .i64 (otherW W xs), .slice R2 r2 d2] 24)
    generalize hwC : w6.alloc (.cells #[.int .i64 (otherW W xs), .slice R2 r2 d2] 24) = wC at hkC hbC
    have P7 : Own wC _ P l p := P3.next (by (repeat (first | exact Below.refl _ _ | assumption | refine lo_alloc ?_ _ | refine lo_set ?_ (by simp; try omega) _ | refine Below.drew ?_ | refine below_drewN ?_ _ | refine lo_trans ?_ (by assumption) | refine lo_wr ?_ (by assumption) (by omega))))
    have Q7 : Own wC _ Q m q := Q3.next (by (repeat (first | exact Below.refl _ _ | assumption | refine lo_alloc ?_ _ | refine lo_set ?_ (by simp; try omega) _ | refine Below.drew ?_ | refine below_drewN ?_ _ | refine lo_trans ?_ (by assumption) | refine lo_wr ?_ (by assumption) (by omega))))
    have T7 : Own wC _ R1 r1 (turnX W xs) := ho5.next (by (repeat (first | exact Below.refl _ _ | assumption | refine lo_alloc ?_ _ | refine lo_set ?_ (by simp; try omega) _ | refine Below.drew ?_ | refine below_drewN ?_ _ | refine lo_trans ?_ (by assumption) | refine lo_wr ?_ (by assumption) (by omega))))
    have O7 : Own wC _ R2 r2 (otherX W xs) := ho6.next (by (repeat (first | exact Below.refl _ _ | assumption | refine lo_alloc ?_ _ | refine lo_set ?_ (by simp; try omega) _ | refine Below.drew ?_ | refine below_drewN ?_ _ | refine lo_trans ?_ (by assumption) | refine lo_wr ?_ (by assumption) (by omega))))
    have kT7 : Blk wC w5.heap.size _ _ := hkB.next (by (repeat (first | exact Below.refl _ _ | assumption | refine lo_alloc ?_ _ | refine lo_set ?_ (by simp; try omega) _ | refine Below.drew ?_ | refine below_drewN ?_ _ | refine lo_trans ?_ (by assumption) | refine lo_wr ?_ (by assumption) (by omega))))
    have hr1 : r1 ≤ 6 := by
      rw [← ho5.1]
      have := wX_len q p
      rwa [← (wFit_parts (fit_turn hF'.out)).2.2.2] at this
    have hr2 : r2 ≤ 6 := by
      rw [← ho6.1]
      have := wX_len (p.map (fun x => -x)) (q.map (fun x => -x))
      rwa [← (wFit_parts (fit_other hF'.out)).2.2.2] at this
    have H0 : Below w.heap.size w wC := by (repeat (first | exact Below.refl _ _ | assumption | refine lo_alloc ?_ _ | refine lo_set ?_ (by simp; try omega) _ | refine Below.drew ?_ | refine below_drewN ?_ _ | refine lo_trans ?_ (by assumption) | refine lo_wr ?_ (by assumption) (by omega)))
    have hzT := kT7.lt
    have hzO := hkC.lt
    clear hb1 hbA hb2 hb3 hX hP hQ kA2 hkA kA3 hb5 kA5 hkB hbB hb6 ho5 ho6 hbC X3 P3 Q3
    obtain ⟨s, hs⟩ : ∃ s, s = wC.heap.size := ⟨_, rfl⟩
    have hB0 : Below wC.heap.size wC ((wC.alloc (.cells #[] 3)).alloc (.cells #[] 3)) := by (repeat (first | exact Below.refl _ _ | assumption | refine lo_alloc ?_ _ | refine lo_set ?_ (by simp; try omega) _ | refine Below.drew ?_ | refine below_drewN ?_ _ | refine lo_trans ?_ (by assumption) | refine lo_wr ?_ (by assumption) (by omega)))
    have hx0 : Buf ((wC.alloc (.cells #[] 3)).alloc (.cells #[] 3)) s (some ⟨s, 0, none⟩) 0 [] := by
      rw [hs]; exact ⟨rfl, .inr ⟨wC.heap.size, 0, #[], rfl, Nat.le_refl _, (Blk.new wC 3 #[]).alloc _, Nat.le_refl _, Nat.zero_le _, rfl, rfl⟩⟩
    have hy0 : Blk ((wC.alloc (.cells #[] 3)).alloc (.cells #[] 3)) (s + 1) 3 #[] := by rw [hs]; exact heap_at2 _ _ _ _
    have hsl : s ≤ wC.heap.size := by omega
    have hsg : wC.heap.size ≤ s := by omega
    rw [← hwC] at hs hB0 hx0 hy0 hsl hsg
    go_wp2_with fail
    rw [hwC] at hs hB0 hx0 hy0 hsl hsg
    clear hwC
    rw [← hs]
    have hs' := Lib.hid hs; clear hs
    go_loopw [12, 14] (fun v i wr => ∃ (k : Nat) (A : Option Addr) (c : Nat), k ≤ l ∧ i = .int .i64 k ∧ v = .slice A k c ∧ Buf wr s A c ((p.take k).map (fun x => -x)) ∧ Hid (∀ g, A = some ⟨g, 0, none⟩ → g ≠ s + 1) ∧
        Below wC.heap.size wC wr ∧ Blk wr (s + 1) 3 #[] ∧ Hid (∀ j, j < k → -99 ≤ p[j]?.getD 0 ∧ p[j]?.getD 0 ≤ 99)) (fun _ i _ => l - (intOf i).toNat)
    case atStart => exact ⟨0, _, 0, Nat.zero_le _, rfl, rfl, hx0, Lib.hid (by rintro g ⟨⟩; omega), hB0, hy0, Lib.hid (fun j h => absurd h (by omega))⟩
    case round =>
      clear hx0 hB0 hy0
      obtain ⟨k, A', c', hk, rfl, rfl, hB, hA, hW, hY, hall⟩ := hrel
      have hzr := hW.size
      have hzy := hY.lt
      by_cases hlt : k < l
      · obtain ⟨gp, rfl, _, _, cp, _, _⟩ := (P7.next hW).at_ hlt
        have hpb := wIn_at hwp.out.1 k (by rw [P7.1]; exact hlt)
        have hlen : Hid (k = ((p.take k).map (fun x => -x)).length) := Lib.hid (by simp; have := P7.1; omega)
        have hsn := Lib.hid (map_snoc p (fun x => -x) (k := k) (by rw [P7.1]; exact hlt))
        have hB3 : Buf (wr.alloc (.cells #[.int .i64 (-p[k]?.getD 0)] 3)) s A' c' ((p.take k).map (fun x => -x)) := hB.next (by (repeat (first | exact Below.refl _ _ | assumption | refine lo_alloc ?_ _ | refine lo_set ?_ (by simp; try omega) _ | refine Below.drew ?_ | refine below_drewN ?_ _ | refine lo_trans ?_ (by assumption) | refine lo_wr ?_ (by assumption) (by omega))))
        have hY3 : Blk (wr.alloc (.cells #[.int .i64 (-p[k]?.getD 0)] 3)) (s + 1) 3 #[] := hY.alloc _
        have hW3 : Below wC.heap.size wC (wr.alloc (.cells #[.int .i64 (-p[k]?.getD 0)] 3)) := lo_alloc hW _
        have hrd : Rd (wr.alloc (.cells (ints [-p[k]?.getD 0]) 3)) (some ⟨wr.heap.size, 0, none⟩) 1 [-p[k]?.getD 0] := Rd.of_blk (Blk.new _ _ _)
        have hn4 := rowA_at hB3
        have hBk := rowA_ge hB3
        clear hW hB hY
        have hN : Hid (∀ j, j < k + 1 → -99 ≤ p[j]?.getD 0 ∧ p[j]?.getD 0 ≤ 99) := Lib.hid (fun j hj => by
          rcases Nat.lt_or_ge j k with h | h
          · exact hall.out j h
          · obtain rfl : j = k := by omega
            omega)
        go_wp2_with (at_builtin; refine (wpl_append rfl _ _ rfl s A' c' k _ rfl hlen.out hB3 _ 1 1 [-p[k]?.getD 0] rfl hrd (by omega) (by omega) (by simp; omega) ?_); intro g c4 w4 hB4 hg4 hat; have hW4 := hW3.grown hg4 hW3.size (fun g hg => by have := hBk g hg; omega))
        rw [hsn.out] at hB4
        go_roundw
        case rel =>
          refine ⟨k + 1, _, c4, by omega, by go_num, rfl, hB4, Lib.hid ?_, hW4, hY3.grown hg4 (fun e => hA.out _ (hn4 _ e.symm) rfl), hN⟩
          rintro g' ⟨⟩
          rcases hat with h | h
          · exact hA.out _ h
          · simp at h; omega
        case measure => simp [intOf]; omega
      · obtain ⟨k1, rfl⟩ : ∃ k1 : Nat, k1 = k := ⟨_, rfl⟩
        have hy1 : Buf wr s (some ⟨s + 1, 0, none⟩) 0 [] := ⟨rfl, .inr ⟨s + 1, 0, #[], rfl, by omega, hY, Nat.le_refl _, Nat.zero_le _, rfl, rfl⟩⟩
        have hX1 := Lib.hid (show ∀ g, some (⟨s + 1, 0, none⟩ : Addr) = some ⟨g, 0, none⟩ → A' ≠ some ⟨g, 0, none⟩ by
          rintro g ⟨⟩ e; exact hA.out _ e rfl)
        have hk1 : Hid (k1 = l) := Lib.hid (by omega)
        clear hY hA hzy hzr
        obtain ⟨wo, rfl⟩ : ∃ wo : World, wo = wr := ⟨_, rfl⟩
        go_wp2
        go_loopw [13, 15] (fun v i wr => ∃ (k : Nat) (B : Option Addr) (d : Nat), k ≤ m ∧ i = .int .i64 k ∧ v = .slice B k d ∧ Buf wr s B d ((q.take k).map (fun x => -x)) ∧ Buf wr s A' c' ((p.take k1).map (fun x => -x)) ∧
            Hid (∀ g, B = some ⟨g, 0, none⟩ → A' ≠ some ⟨g, 0, none⟩) ∧ Below wC.heap.size wC wr ∧ Hid (∀ j, j < k → -99 ≤ q[j]?.getD 0 ∧ q[j]?.getD 0 ≤ 99)) (fun _ i _ => m - (intOf i).toNat)
        case atStart => exact ⟨0, _, 0, Nat.zero_le _, rfl, rfl, hy1, hB, hX1, hW, Lib.hid (fun j h => absurd h (by omega))⟩
        case round =>
          clear hy1 hB hX1 hW
          obtain ⟨k, B, d, hk, rfl, rfl, hBq, hBp, hX1, hW, hall2⟩ := hrel
          have hzr := hW.size
          by_cases hlt2 : k < m
          · obtain ⟨gq, rfl, _, _, cq, _, _⟩ := (Q7.next hW).at_ hlt2
            have hqb := wIn_at hwp.out.2.1 k (by rw [Q7.1]; exact hlt2)
            have hlen : Hid (k = ((q.take k).map (fun x => -x)).length) := Lib.hid (by simp; have := Q7.1; omega)
            have hsn := Lib.hid (map_snoc q (fun x => -x) (k := k) (by rw [Q7.1]; exact hlt2))
            have hB3 : Buf (wr.alloc (.cells #[.int .i64 (-q[k]?.getD 0)] 3)) s B d ((q.take k).map (fun x => -x)) := hBq.next (by (repeat (first | exact Below.refl _ _ | assumption | refine lo_alloc ?_ _ | refine lo_set ?_ (by simp; try omega) _ | refine Below.drew ?_ | refine below_drewN ?_ _ | refine lo_trans ?_ (by assumption) | refine lo_wr ?_ (by assumption) (by omega))))
            have hA3 : Buf (wr.alloc (.cells #[.int .i64 (-q[k]?.getD 0)] 3)) s A' c' ((p.take k1).map (fun x => -x)) := hBp.next (by (repeat (first | exact Below.refl _ _ | assumption | refine lo_alloc ?_ _ | refine lo_set ?_ (by simp; try omega) _ | refine Below.drew ?_ | refine below_drewN ?_ _ | refine lo_trans ?_ (by assumption) | refine lo_wr ?_ (by assumption) (by omega))))
            have hW3 : Below wC.heap.size wC (wr.alloc (.cells #[.int .i64 (-q[k]?.getD 0)] 3)) := lo_alloc hW _
            have hrd : Rd (wr.alloc (.cells (ints [-q[k]?.getD 0]) 3)) (some ⟨wr.heap.size, 0, none⟩) 1 [-q[k]?.getD 0] := Rd.of_blk (Blk.new _ _ _)
            have hn4 := rowA_at hB3
            have hBk := rowA_ge hB3
            clear hW hBq hBp
            have hN : Hid (∀ j, j < k + 1 → -99 ≤ q[j]?.getD 0 ∧ q[j]?.getD 0 ≤ 99) := Lib.hid (fun j hj => by
              rcases Nat.lt_or_ge j k with h | h
              · exact hall2.out j h
              · obtain rfl : j = k := by omega
                omega)
            go_wp2_with (at_builtin; refine (wpl_append rfl _ _ rfl s B d k _ rfl hlen.out hB3 _ 1 1 [-q[k]?.getD 0] rfl hrd (by omega) (by omega) (by simp; omega) ?_); intro g c4 w4 hB4 hg4 hat; have hW4 := hW3.grown hg4 hW3.size (fun g hg => by have := hBk g hg; omega))
            rw [hsn.out] at hB4
            go_roundw
            case rel =>
              refine ⟨k + 1, _, c4, by omega, by go_num, rfl, hB4, hA3.kept hg4 (fun g e e' => hX1.out g (hn4 g e') e), Lib.hid ?_, hW4, hN⟩
              rintro g' ⟨⟩ e
              rcases hat with h | h
              · exact hX1.out _ h e
              · have := hA3.lt _ e; omega
            case measure => simp [intOf]; omega
          · have hkm : Hid (k = m) := Lib.hid (by omega)
            have hOp := hBp.own
            have hOq := hBq.own
            rw [List.take_of_length_le (by have := P7.1; have := hk1.out; omega)] at hOp
            rw [List.take_of_length_le (by have := Q7.1; have := hkm.out; omega)] at hOq
            rw [List.length_map] at hOp hOq
            have e1 : p.length = k1 := by have := P7.1; have := hk1.out; omega
            have e2 : q.length = k := by have := Q7.1; have := hkm.out; omega
            rw [e1] at hOp
            rw [e2] at hOq
            have hM1 := Lib.hid (fit_turn hF'.out)
            have hM2 := Lib.hid (fit_other hF'.out)
            clear e1 e2
            have b0 := (kT7.next hW).cell 0
            have b1 := (kT7.next hW).cell 1
            go_wp2_with fail
            refine (impl_WeightsFit_c _ _ _ _ _ _ _ _ _ _ (turnX W xs) q p _ (T7.next hW).rd (Q7.next hW).rd (P7.next hW).rd (by omega) (by omega) (by omega)).mono ?_
            rw [hM1.out]
            rintro e w8 ⟨rfl, hb8⟩
            clear b0 b1
            have b0 := ((hkC.next hW).next hb8).cell 0
            have b1 := ((hkC.next hW).next hb8).cell 1
            go_wp2_with fail
            refine (impl_WeightsFit_c _ _ _ _ _ _ _ _ _ _ (otherX W xs) _ _ _ ((O7.next hW).next hb8).rd (hOp.next hb8).rd (hOq.next hb8).rd (by omega) (by omega) (by omega)).mono ?_
            rw [hM2.out]
            rintro e w9 ⟨rfl, hb9⟩
            go_wp2
            go_ret
            exact ⟨rfl, lo_trans (lo_trans (lo_trans H0 hW) hb8) hb9⟩
end Go.Proofs.Ytlhhafgfpmgbcaa
