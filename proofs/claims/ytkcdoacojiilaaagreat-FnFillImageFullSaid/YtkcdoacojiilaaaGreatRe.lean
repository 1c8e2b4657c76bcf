
/- Walks: the sums of a valid image and its uniqueness, the reference's functions, exactly. -/
import Derived.Test.YtkcdoacojiilaaaGreatMathUq
import Derived.Test.YtkcdoacojiilaaaGreatWg
import Derived.Test.YtkcdoacojiilaaaGreatCl
import Derived.Test.YtkcdoacojiilaaaGreatKg
import Derived.Test.YtkcdoacojiilaaaGreatKd
namespace Go.Proofs.YtkcdoacojiilaaaGreat
open Go.RowKit
set_option maxRecDepth 100000

theorem Buf.monoL {w : World} {lo lo' c : Nat} {A : Option Addr} {xs : List Int} (h : Buf w lo A c xs) (hl : lo' ≤ lo) : Buf w lo' A c xs := by
  refine ⟨h.1, ?_⟩
  rcases h.2 with h1 | ⟨g', cap, cur, hv, hb, hr⟩
  · exact .inl h1
  · exact .inr ⟨g', cap, cur, hv, Nat.le_trans hl hb, hr⟩

set_option maxHeartbeats 2000000 in
theorem l2Row_x (A : Option Addr) (n c m i r : Nat) (xs : List Int) (w : World) (hr : Rd w A n xs) (hi : i < n) (hm : m ≤ 6) (hx : xs[i]?.getD 0 = (r : Int)) (hr2 : r < 2 ^ m) :
    Calls Tryz.prog 62 #[.agg #[.int .i64 m, .slice A n c], .int .i64 i] w fun e w' => e = .returned (.int .i64 ((pop r : Nat) : Int)) ∧ Below w.heap.size w w' := by
  have hr64 : r < 64 := by have := pow_le64 (j := m) (by omega); omega
  have hE := Lib.hid (popK_pop hr2 hm)
  have hR2 := hr.alloc (.cells #[.int .i64 m, .slice A n c] 27)
  obtain ⟨b, off, rfl, hb, hc⟩ := hR2.at_ hi
  rw [hx] at hc
  clear hR2 hx hr2
  go_enter Tryz.func62, Tryz.ntmps62
  have hK := Blk.new w 27 #[.int .i64 m, .slice (some ⟨b, off, none⟩) n c]
  go_wp2
  go_loop [5, 6] (fun s j => ∃ k t : Nat, k ≤ m ∧ t ≤ k ∧ Hid (t = popK r k) ∧ j = .int .i64 k ∧ s = .int .i64 t) (fun _ j => m - (intOf j).toNat)
  case atStart => exact ⟨0, 0, by omega, by omega, Lib.hid rfl, rfl, rfl⟩
  case round =>
    obtain ⟨k, t, hk, htk, ht, rfl, rfl⟩ := hrel
    have c0 := hK.cell 0
    have c1 := hK.cell 1
    by_cases hlt : k < m
    · go_wp2_with fail
      refine (l1Bit_c r k _ (by omega) (by omega)).mono ?_
      rintro e w' ⟨rfl, rfl⟩
      have h2 : r / 2 ^ k % 2 < 2 := Nat.mod_lt _ (by omega)
      have ht2 := Lib.hid (popK_step r k)
      rw [← ht.out] at ht2
      generalize r / 2 ^ k % 2 = v at h2 ht2 ⊢
      go_wp2
      go_round
      case rel => exact ⟨k + 1, t + v, by omega, by omega, Lib.hid ht2.out.symm, by go_num, by go_num⟩
      case measure => simp [intOf]; omega
    · obtain rfl : k = m := by omega
      have hF := Lib.hid (show ((t : Nat) : Int) = ((pop r : Nat) : Int) by rw [ht.out, hE.out])
      go_wp2
      go_ret
      exact ⟨ret_int hF.out, by (repeat (first | exact Below.refl _ _ | assumption | refine lo_alloc ?_ _ | refine lo_set ?_ (by simp; try omega) _ | refine Below.drew ?_ | refine below_drewN ?_ _ | refine lo_trans ?_ (by assumption) | refine lo_wr ?_ (by assumption) (by omega)))⟩

set_option maxHeartbeats 4000000 in
theorem spec_RowSums_x (A : Option Addr) (h c m : Nat) (xs : List Int) (w : World) (hr : Rd w A h xs) (hk : okB (m : Int) xs = true) :
    Calls Tryz.prog 44 #[.agg #[.int .i64 m, .slice A h c]] w fun e w' => ∃ (R : Option Addr) (d : Nat), e = .returned (.slice R h d) ∧ Own w' w.heap.size R h (rsum xs) ∧ Below w.heap.size w w' := by
  have hbd := okB_bd hk
  rw [hr.1] at hbd
  have hxl := Lib.hid hr.1
  have hk' := Lib.hid hk
  clear hk
  go_enter Tryz.func44, Tryz.ntmps44
  have hK0 : Blk ((w.alloc (.cells #[.int .i64 m, .slice A h c] 27)).alloc (.cells #[] 3)) w.heap.size 27 #[.int .i64 m, .slice A h c] := (Blk.new w 27 #[.int .i64 m, .slice A h c]).alloc _
  have hB0 : Buf ((w.alloc (.cells #[.int .i64 m, .slice A h c] 27)).alloc (.cells #[] 3)) (w.heap.size + 1) (some ⟨w.heap.size + 1, 0, none⟩) 0 (rsum (xs.take 0)) :=
    ⟨rfl, .inr ⟨w.heap.size + 1, 0, #[], rfl, Nat.le_refl _, heap_at2 w _ 3 #[], Nat.le_refl _, Nat.zero_le _, rfl, rfl⟩⟩
  have hL0 : Below w.heap.size w ((w.alloc (.cells #[.int .i64 m, .slice A h c] 27)).alloc (.cells #[] 3)) := lo_alloc (lo_alloc (Below.refl _ _) _) _
  go_wp2
  go_loopw [3, 4] (fun v i wr => ∃ (k : Nat) (R : Option Addr) (d : Nat), k ≤ h ∧ i = .int .i64 k ∧ v = .slice R k d ∧ Buf wr (w.heap.size + 1) R d (rsum (xs.take k)) ∧
      Below w.heap.size w wr ∧ Blk wr w.heap.size 27 #[.int .i64 m, .slice A h c]) (fun _ i _ => h - (intOf i).toNat)
  case atStart => exact ⟨0, _, 0, Nat.zero_le _, rfl, rfl, hB0, hL0, hK0⟩
  case round =>
    clear hB0 hL0 hK0
    obtain ⟨k, R, d, hk, rfl, rfl, hB, hL, hK⟩ := hrel
    have hyl' : Hid ((rsum (xs.take k)).length = k) := Lib.hid (by rw [rsum_len, List.length_take, hxl.out]; omega)
    have hzr := hK.lt
    have c0 := hK.cell 0
    have c1 := hK.cell 1
    by_cases hlt : k < h
    · obtain ⟨r, hxr, hr2⟩ := okB_row hk'.out rfl (k := k) (by rw [hxl.out]; exact hlt)
      have hS := Lib.hid (rsum_step' (by rw [hxl.out]; exact hlt) hxr)
      have hxr' := Lib.hid hxr
      clear hxr
      go_wp2_with fail
      refine (spec_ImageValid_c _ _ _ _ xs _ (hr.next hL) (by omega)).mono ?_
      rw [hk'.out]
      rintro e w1 ⟨rfl, hb1⟩
      have hK1 := hK.next hb1
      clear c0 c1
      have c0 := hK1.cell 0
      have c1 := hK1.cell 1
      have hs1 := hb1.size
      go_wp2_with fail
      refine (l2Row_x _ _ _ _ _ r xs _ (hr.next (lo_trans hL hb1)) hlt (by omega) hxr'.out hr2).mono ?_
      rintro e w2 ⟨rfl, hb2⟩
      have hs2 := hb2.size
      have hbB : Below wr.heap.size wr w2 := lo_trans hb1 hb2
      generalize pop r = s at hS ⊢
      have hB3 : Buf (w2.alloc (.cells #[.int .i64 (s : Int)] 3)) (w.heap.size + 1) R d (rsum (xs.take k)) := (hB.next hbB).next (by (repeat (first | exact Below.refl _ _ | assumption | refine lo_alloc ?_ _ | refine lo_set ?_ (by simp; try omega) _ | refine Below.drew ?_ | refine below_drewN ?_ _ | refine lo_trans ?_ (by assumption) | refine lo_wr ?_ (by assumption) (by omega))))
      have hK3 : Blk (w2.alloc (.cells #[.int .i64 (s : Int)] 3)) w.heap.size _ _ := (hK1.next hb2).alloc (.cells #[.int .i64 (s : Int)] 3)
      have hL3 : Below w.heap.size w (w2.alloc (.cells #[.int .i64 (s : Int)] 3)) := lo_alloc (lo_trans hL hbB) _
      have hrd : Rd (w2.alloc (.cells (ints [(s : Int)]) 3)) (some ⟨w2.heap.size, 0, none⟩) 1 [(s : Int)] := Rd.of_blk (Blk.new _ _ _)
      clear hb1 hb2 hbB c0 c1 hK hK1 hB hL
      go_wp2_with (at_builtin; refine (wpl_append rfl _ _ rfl (w.heap.size + 1) R d k (rsum (xs.take k)) rfl hyl'.out.symm hB3 _ 1 1 [(s : Int)] rfl hrd (by omega) (by omega) (by simp; omega) ?_); intro g c' w4 hB4 hg4 hat)
      have hBk := rowA_ge hB3
      rw [hS.out] at hB4
      go_roundw
      case rel =>
        exact ⟨k + 1, _, c', by omega, by go_num, rfl, hB4, hL3.grown hg4 hL3.size (fun g hg => by have := hBk g hg; omega), hK3.grown hg4 (fun e => by have := hBk _ e.symm; omega)⟩
      case measure => simp [intOf]; omega
    · obtain rfl : k = h := by omega
      have hO := (hB.monoL (lo' := w.heap.size) (by omega)).own
      rw [hyl'.out, List.take_of_length_le (by rw [hxl.out]; exact Nat.le_refl _)] at hO
      go_wp2
      go_ret
      exact ⟨_, _, rfl, hO, hL⟩

set_option maxHeartbeats 4000000 in
theorem spec_ColSums_x (A : Option Addr) (h c m : Nat) (xs : List Int) (w : World) (hr : Rd w A h xs) (hk : okB (m : Int) xs = true) :
    Calls Tryz.prog 63 #[.agg #[.int .i64 m, .slice A h c]] w fun e w' => ∃ (R : Option Addr) (d : Nat), e = .returned (.slice R m d) ∧ Own w' w.heap.size R m (csum m xs) ∧ Below w.heap.size w w' := by
  have hbd := okB_bd hk
  rw [hr.1] at hbd
  have hxl := Lib.hid hr.1
  have hk' := Lib.hid hk
  clear hk
  go_enter Tryz.func63, Tryz.ntmps63
  have hK0 : Blk ((w.alloc (.cells #[.int .i64 m, .slice A h c] 27)).alloc (.cells #[] 3)) w.heap.size 27 #[.int .i64 m, .slice A h c] := (Blk.new w 27 #[.int .i64 m, .slice A h c]).alloc _
  have hB0 : Buf ((w.alloc (.cells #[.int .i64 m, .slice A h c] 27)).alloc (.cells #[] 3)) (w.heap.size + 1) (some ⟨w.heap.size + 1, 0, none⟩) 0 (csum 0 xs) :=
    ⟨rfl, .inr ⟨w.heap.size + 1, 0, #[], rfl, Nat.le_refl _, heap_at2 w _ 3 #[], Nat.le_refl _, Nat.zero_le _, rfl, rfl⟩⟩
  have hL0 : Below w.heap.size w ((w.alloc (.cells #[.int .i64 m, .slice A h c] 27)).alloc (.cells #[] 3)) := lo_alloc (lo_alloc (Below.refl _ _) _) _
  have c0 := hK0.cell 0
  have c1 := hK0.cell 1
  go_wp2_with fail
  refine (spec_ImageValid_c _ _ _ _ xs _ (hr.next hL0) (by omega)).mono ?_
  rw [hk'.out]
  rintro e w1 ⟨rfl, hb1⟩
  have hK1 := hK0.next hb1
  have hB1 := hB0.next hb1
  have hL1 := lo_trans hL0 hb1
  clear hK0 hB0 hL0 c0 c1 hb1
  go_wp2
  go_loopw [3, 4] (fun v i wr => ∃ (k : Nat) (R : Option Addr) (d : Nat), k ≤ m ∧ i = .int .i64 k ∧ v = .slice R k d ∧ Buf wr (w.heap.size + 1) R d (csum k xs) ∧
      Below w.heap.size w wr ∧ Blk wr w.heap.size 27 #[.int .i64 m, .slice A h c]) (fun _ i _ => m - (intOf i).toNat)
  case atStart => exact ⟨0, _, 0, Nat.zero_le _, rfl, rfl, hB1, hL1, hK1⟩
  case round =>
    clear hB1 hL1 hK1
    obtain ⟨k, R, d, hk, rfl, rfl, hB, hL, hK⟩ := hrel
    have hyl' : Hid ((csum k xs).length = k) := Lib.hid (csum_len k xs)
    have hzr := hK.lt
    have c0 := hK.cell 0
    have c1 := hK.cell 1
    have hRr := hr.next hL
    by_cases hlt : k < m
    · go_wp2
      go_loop [5, 6] (fun s i => ∃ i' t : Nat, i' ≤ h ∧ t ≤ i' ∧ Hid (t = colK xs k i') ∧ i = .int .i64 i' ∧ s = .int .i64 t) (fun _ i => h - (intOf i).toNat)
      case atStart => exact ⟨0, 0, by omega, by omega, Lib.hid rfl, rfl, rfl⟩
      case round =>
        obtain ⟨i, t, hi, hti, ht, rfl, rfl⟩ := hrel
        by_cases hlt2 : i < h
        · obtain ⟨b, off, rfl, hb, hc⟩ := hRr.at_ hlt2
          obtain ⟨r, hxr, hr2⟩ := okB_at hk'.out (k := i) (by rw [hxl.out]; exact hlt2)
          have ht2 := Lib.hid (colK_step (k := k) (by rw [hxl.out]; exact hlt2) hxr)
          rw [← ht.out] at ht2
          rw [hxr] at hc
          have hxr' := Lib.hid hxr; clear hxr
          go_wp2_with fail
          refine (l1Bit_c r k _ (by omega) (by omega)).mono ?_
          rintro e w' ⟨rfl, rfl⟩
          have h2 : r / 2 ^ k % 2 < 2 := Nat.mod_lt _ (by omega)
          generalize r / 2 ^ k % 2 = v at h2 ht2 ⊢
          go_wp2
          go_round
          case rel => exact ⟨i + 1, t + v, by omega, by omega, Lib.hid ht2.out.symm, by go_num, by go_num⟩
          case measure => simp [intOf]; omega
        · obtain rfl : i = h := by omega
          have hS := Lib.hid (csum_step k xs)
          rw [← colK_all, hxl.out, ← ht.out] at hS
          have hB3 : Buf (wr.alloc (.cells #[.int .i64 (t : Int)] 3)) (w.heap.size + 1) R d (csum k xs) := hB.next (by (repeat (first | exact Below.refl _ _ | assumption | refine lo_alloc ?_ _ | refine lo_set ?_ (by simp; try omega) _ | refine Below.drew ?_ | refine below_drewN ?_ _ | refine lo_trans ?_ (by assumption) | refine lo_wr ?_ (by assumption) (by omega))))
          have hK3 : Blk (wr.alloc (.cells #[.int .i64 (t : Int)] 3)) w.heap.size _ _ := hK.alloc (.cells #[.int .i64 (t : Int)] 3)
          have hL3 : Below w.heap.size w (wr.alloc (.cells #[.int .i64 (t : Int)] 3)) := lo_alloc hL _
          have hrd : Rd (wr.alloc (.cells (ints [(t : Int)]) 3)) (some ⟨wr.heap.size, 0, none⟩) 1 [(t : Int)] := Rd.of_blk (Blk.new _ _ _)
          clear hK hB hL hRr
          go_wp2_with (at_builtin; refine (wpl_append rfl _ _ rfl (w.heap.size + 1) R d k (csum k xs) rfl hyl'.out.symm hB3 _ 1 1 [(t : Int)] rfl hrd (by omega) (by omega) (by simp; omega) ?_); intro g c' w4 hB4 hg4 hat)
          have hBk := rowA_ge hB3
          rw [hS.out] at hB4
          go_roundw
          case rel =>
            exact ⟨k + 1, _, c', by omega, by go_num, rfl, hB4, hL3.grown hg4 hL3.size (fun g hg => by have := hBk g hg; omega), hK3.grown hg4 (fun e => by have := hBk _ e.symm; omega)⟩
          case measure => simp [intOf]; omega
    · obtain rfl : k = m := by omega
      have hO := (hB.monoL (lo' := w.heap.size) (by omega)).own
      rw [hyl'.out] at hO
      go_wp2
      go_ret
      exact ⟨_, _, rfl, hO, hL⟩

end Go.Proofs.YtkcdoacojiilaaaGreat
