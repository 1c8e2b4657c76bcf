
/- Walks: the sums of an image, the reference's functions (values bounded only). -/
import Derived.Test.YtljmlhcmjgepcaaSl3
import Derived.Test.YtljmlhcmjgepcaaWg
import Derived.Test.YtljmlhcmjgepcaaKe
namespace Go.Proofs.Ytljmlhcmjgepcaa
open Go.RowKit
set_option maxRecDepth 100000

theorem img_row {f : Nat → Nat → Bool} {h m i : Nat} (hm : m ≤ 6) (hi : i < h) : ∃ r : Nat, (img f h m)[i]?.getD 0 = (r : Int) ∧ r < 64 := by
  refine ⟨_, img_get hi, Nat.lt_of_lt_of_le (mkRow_lt _ _) ?_⟩
  exact Nat.pow_le_pow_right (by omega) hm

theorem Buf.set {w : World} {base g c k : Nat} {xs : List Int} (h : Buf w base (some ⟨g, 0, none⟩) c xs) (y : Int) : Buf (w.setCell ⟨g, k, none⟩ (.int .i64 y)) base (some ⟨g, 0, none⟩) c (xs.set k y) := by
  rcases h.2 with ⟨hv, _⟩ | ⟨g', cap, cur, hv, hb, hh, hn, hm, hs, ht⟩
  · injection hv with h1; cases h1
  · injection hv with h1 h2 h3
    injection h1 with h1
    injection h1 with h1
    subst h1
    subst h3
    refine ⟨by simp, .inr ⟨g, c, _, by simp, hb, Blk.set_ hh k _, by simpa using hn, hm, by simpa using hs, ?_⟩⟩
    rw [List.length_set, Array.toList_setIfInBounds, List.take_set, ht, List.map_set]
theorem Buf.mono {w : World} {lo lo' c : Nat} {A : Option Addr} {xs : List Int} (h : Buf w lo A c xs) (hl : lo' ≤ lo) : Buf w lo' A c xs := by
  refine ⟨h.1, ?_⟩
  rcases h.2 with h1 | ⟨g', cap, cur, hv, hb, hr⟩
  · exact .inl h1
  · exact .inr ⟨g', cap, cur, hv, Nat.le_trans hl hb, hr⟩

set_option maxHeartbeats 2000000 in
theorem l2Row_c (A : Option Addr) (n c m i : Nat) (xs : List Int) (w : World) (hr : Rd w A n xs) (hi : i < n) (_ : n ≤ 6) (hm : m ≤ 6) (hx : ∃ r : Nat, xs[i]?.getD 0 = (r : Int) ∧ r < 64) :
    Calls Try.prog 73 #[.agg #[.int .i64 m, .slice A n c], .int .i64 i] w fun e w' => ∃ s : Nat, e = .returned (.int .i64 s) ∧ s ≤ 6 ∧ Below w.heap.size w w' := by
  obtain ⟨r, hxr, hr64⟩ := hx
  have hR2 := hr.alloc (.cells #[.int .i64 m, .slice A n c] 36)
  obtain ⟨b, off, rfl, hb, hc⟩ := hR2.at_ hi
  rw [hxr] at hc
  clear hR2
  have hxr' := Lib.hid hxr; clear hxr
  go_enter Try.func73, Try.ntmps73
  have hK := Blk.new w 36 #[.int .i64 m, .slice (some ⟨b, off, none⟩) n c]
  go_wp2
  go_loop [5, 6] (fun s j => ∃ k t : Nat, k ≤ m ∧ t ≤ k ∧ j = .int .i64 k ∧ s = .int .i64 t) (fun _ j => m - (intOf j).toNat)
  case atStart => exact ⟨0, 0, by omega, by omega, rfl, rfl⟩
  case round =>
    obtain ⟨k, t, hk, htk, rfl, rfl⟩ := hrel
    have c0 := hK.cell 0
    have c1 := hK.cell 1
    by_cases hlt : k < m
    · go_wp2_with fail
      refine (l1Bit_c r k _ (by omega) (by omega)).mono ?_
      rintro e w' ⟨rfl, rfl⟩
      have h2 : r / 2 ^ k % 2 < 2 := Nat.mod_lt _ (by omega)
      generalize r / 2 ^ k % 2 = v at h2 ⊢
      go_wp2
      go_round
      case rel => exact ⟨k + 1, t + v, by omega, by omega, by go_num, by go_num⟩
      case measure => simp [intOf]; omega
    · obtain rfl : k = m := by omega
      go_wp2
      go_ret
      exact ⟨t, rfl, by omega, by (repeat (first | exact Below.refl _ _ | assumption | refine lo_alloc ?_ _ | refine lo_set ?_ (by simp; try omega) _ | refine Below.drew ?_ | refine below_drewN ?_ _ | refine lo_trans ?_ (by assumption) | refine lo_wr ?_ (by assumption) (by omega)))⟩

set_option maxHeartbeats 4000000 in
theorem spec_RowSums_c (A : Option Addr) (h c m : Nat) (f : Nat → Nat → Bool) (w : World) (hr : Rd w A h (img f h m)) (h1 : 1 ≤ h) (h6 : h ≤ 6) (m1 : 1 ≤ m) (m6 : m ≤ 6) :
    Calls Try.prog 57 #[.agg #[.int .i64 m, .slice A h c]] w fun e w' => ∃ (R : Option Addr) (d : Nat) (ys : List Int), e = .returned (.slice R h d) ∧ Buf w' w.heap.size R d ys ∧ ys.length = h ∧ Hid (∀ y ∈ ys, 0 ≤ y ∧ y ≤ 6) ∧ Below w.heap.size w w' := by
  go_enter Try.func57, Try.ntmps57
  have hK0 : Blk ((w.alloc (.cells #[.int .i64 m, .slice A h c] 36)).alloc (.cells #[] 3)) w.heap.size 36 #[.int .i64 m, .slice A h c] := (Blk.new w 36 #[.int .i64 m, .slice A h c]).alloc _
  have hB0 : Buf ((w.alloc (.cells #[.int .i64 m, .slice A h c] 36)).alloc (.cells #[] 3)) (w.heap.size + 1) (some ⟨w.heap.size + 1, 0, none⟩) 0 [] :=
    ⟨rfl, .inr ⟨w.heap.size + 1, 0, #[], rfl, Nat.le_refl _, heap_at2 w _ 3 #[], Nat.le_refl _, Nat.zero_le _, rfl, rfl⟩⟩
  have hL0 : Below w.heap.size w ((w.alloc (.cells #[.int .i64 m, .slice A h c] 36)).alloc (.cells #[] 3)) := lo_alloc (lo_alloc (Below.refl _ _) _) _
  go_wp2
  go_loopw [3, 4] (fun v i wr => ∃ (k : Nat) (R : Option Addr) (d : Nat) (ys : List Int), k ≤ h ∧ i = .int .i64 k ∧ v = .slice R k d ∧ ys.length = k ∧ Buf wr (w.heap.size + 1) R d ys ∧
      Hid (∀ y ∈ ys, 0 ≤ y ∧ y ≤ 6) ∧ Below w.heap.size w wr ∧ Blk wr w.heap.size 36 #[.int .i64 m, .slice A h c]) (fun _ i _ => h - (intOf i).toNat)
  case atStart => exact ⟨0, _, 0, [], Nat.zero_le _, rfl, rfl, rfl, hB0, Lib.hid (by simp), hL0, hK0⟩
  case round =>
    clear hB0 hL0 hK0
    obtain ⟨k, R, d, ys, hk, rfl, rfl, hyl, hB, hY, hL, hK⟩ := hrel
    have hyl' := Lib.hid hyl; clear hyl
    have hzr := hK.lt
    have c0 := hK.cell 0
    have c1 := hK.cell 1
    by_cases hlt : k < h
    · go_wp2_with fail
      refine (spec_ImageValid_c _ _ _ _ (img f h m) _ (hr.next hL) (by omega)).mono ?_
      rw [okB_img h1 h6 m1 m6]
      rintro e w1 ⟨rfl, hb1⟩
      have hK1 := hK.next hb1
      clear c0 c1
      have c0 := hK1.cell 0
      have c1 := hK1.cell 1
      have hs1 := hb1.size
      go_wp2_with fail
      refine (l2Row_c _ _ _ _ _ (img f h m) _ (hr.next (lo_trans hL hb1)) hlt h6 m6 (img_row m6 hlt)).mono ?_
      rintro e w2 ⟨s, rfl, hs6, hb2⟩
      have hs2 := hb2.size
      have hbB : Below wr.heap.size wr w2 := lo_trans hb1 hb2
      have hB3 : Buf (w2.alloc (.cells #[.int .i64 (s : Int)] 3)) (w.heap.size + 1) R d ys := (hB.next hbB).next (by (repeat (first | exact Below.refl _ _ | assumption | refine lo_alloc ?_ _ | refine lo_set ?_ (by simp; try omega) _ | refine Below.drew ?_ | refine below_drewN ?_ _ | refine lo_trans ?_ (by assumption) | refine lo_wr ?_ (by assumption) (by omega))))
      have hK3 : Blk (w2.alloc (.cells #[.int .i64 (s : Int)] 3)) w.heap.size _ _ := (hK1.next hb2).alloc (.cells #[.int .i64 (s : Int)] 3)
      have hL3 : Below w.heap.size w (w2.alloc (.cells #[.int .i64 (s : Int)] 3)) := lo_alloc (lo_trans hL hbB) _
      have hrd : Rd (w2.alloc (.cells (ints [(s : Int)]) 3)) (some ⟨w2.heap.size, 0, none⟩) 1 [(s : Int)] := Rd.of_blk (Blk.new _ _ _)
      clear hb1 hb2 hbB c0 c1 hK hK1 hB hL
      go_wp2_with (at_builtin; refine (wpl_append rfl _ _ rfl (w.heap.size + 1) R d k ys rfl hyl'.out.symm hB3 _ 1 1 [(s : Int)] rfl hrd (by omega) (by omega) (by simp; omega) ?_); intro g c' w4 hB4 hg4 hat)
      have hBk := rowA_ge hB3
      go_roundw
      case rel =>
        refine ⟨k + 1, _, c', _, by omega, by go_num, rfl, by simp [hyl'.out], hB4, Lib.hid ?_, hL3.grown hg4 hL3.size (fun g hg => by have := hBk g hg; omega), hK3.grown hg4 (fun e => by have := hBk _ e.symm; omega)⟩
        intro y hy
        rcases List.mem_append.1 hy with h | h
        · exact hY.out y h
        · simp at h; omega
      case measure => simp [intOf]; omega
    · obtain rfl : k = h := by omega
      go_wp2
      go_ret
      exact ⟨_, _, ys, rfl, hB.mono (by omega), hyl'.out, hY, hL⟩

set_option maxHeartbeats 4000000 in
theorem spec_ColSums_c (A : Option Addr) (h c m : Nat) (f : Nat → Nat → Bool) (w : World) (hr : Rd w A h (img f h m)) (h1 : 1 ≤ h) (h6 : h ≤ 6) (m1 : 1 ≤ m) (m6 : m ≤ 6) :
    Calls Try.prog 58 #[.agg #[.int .i64 m, .slice A h c]] w fun e w' => ∃ (R : Option Addr) (d : Nat) (ys : List Int), e = .returned (.slice R m d) ∧ Buf w' w.heap.size R d ys ∧ ys.length = m ∧ Hid (∀ y ∈ ys, 0 ≤ y ∧ y ≤ 6) ∧ Below w.heap.size w w' := by
  go_enter Try.func58, Try.ntmps58
  have hK0 : Blk ((w.alloc (.cells #[.int .i64 m, .slice A h c] 36)).alloc (.cells #[] 3)) w.heap.size 36 #[.int .i64 m, .slice A h c] := (Blk.new w 36 #[.int .i64 m, .slice A h c]).alloc _
  have hB0 : Buf ((w.alloc (.cells #[.int .i64 m, .slice A h c] 36)).alloc (.cells #[] 3)) (w.heap.size + 1) (some ⟨w.heap.size + 1, 0, none⟩) 0 [] :=
    ⟨rfl, .inr ⟨w.heap.size + 1, 0, #[], rfl, Nat.le_refl _, heap_at2 w _ 3 #[], Nat.le_refl _, Nat.zero_le _, rfl, rfl⟩⟩
  have hL0 : Below w.heap.size w ((w.alloc (.cells #[.int .i64 m, .slice A h c] 36)).alloc (.cells #[] 3)) := lo_alloc (lo_alloc (Below.refl _ _) _) _
  have c0 := hK0.cell 0
  have c1 := hK0.cell 1
  go_wp2_with fail
  refine (spec_ImageValid_c _ _ _ _ (img f h m) _ (hr.next hL0) (by omega)).mono ?_
  rw [okB_img h1 h6 m1 m6]
  rintro e w1 ⟨rfl, hb1⟩
  have hK1 := hK0.next hb1
  have hB1 := hB0.next hb1
  have hL1 := lo_trans hL0 hb1
  clear hK0 hB0 hL0 c0 c1 hb1
  go_wp2
  go_loopw [3, 4] (fun v i wr => ∃ (k : Nat) (R : Option Addr) (d : Nat) (ys : List Int), k ≤ m ∧ i = .int .i64 k ∧ v = .slice R k d ∧ ys.length = k ∧ Buf wr (w.heap.size + 1) R d ys ∧
      Hid (∀ y ∈ ys, 0 ≤ y ∧ y ≤ 6) ∧ Below w.heap.size w wr ∧ Blk wr w.heap.size 36 #[.int .i64 m, .slice A h c]) (fun _ i _ => m - (intOf i).toNat)
  case atStart => exact ⟨0, _, 0, [], Nat.zero_le _, rfl, rfl, rfl, hB1, Lib.hid (by simp), hL1, hK1⟩
  case round =>
    clear hB1 hL1 hK1
    obtain ⟨k, R, d, ys, hk, rfl, rfl, hyl, hB, hY, hL, hK⟩ := hrel
    have hyl' := Lib.hid hyl; clear hyl
    have hzr := hK.lt
    have c0 := hK.cell 0
    have c1 := hK.cell 1
    have hRr := hr.next hL
    by_cases hlt : k < m
    · go_wp2
      go_loop [5, 6] (fun s i => ∃ i' t : Nat, i' ≤ h ∧ t ≤ i' ∧ i = .int .i64 i' ∧ s = .int .i64 t) (fun _ i => h - (intOf i).toNat)
      case atStart => exact ⟨0, 0, by omega, by omega, rfl, rfl⟩
      case round =>
        obtain ⟨i, t, hi, hti, rfl, rfl⟩ := hrel
        by_cases hlt2 : i < h
        · obtain ⟨b, off, rfl, hb, hc⟩ := hRr.at_ hlt2
          obtain ⟨r, hxr, hr64⟩ := img_row (f := f) (m := m) m6 hlt2
          rw [hxr] at hc
          have hxr' := Lib.hid hxr; clear hxr
          go_wp2_with fail
          refine (l1Bit_c r k _ (by omega) (by omega)).mono ?_
          rintro e w' ⟨rfl, rfl⟩
          have h2 : r / 2 ^ k % 2 < 2 := Nat.mod_lt _ (by omega)
          generalize r / 2 ^ k % 2 = v at h2 ⊢
          go_wp2
          go_round
          case rel => exact ⟨i + 1, t + v, by omega, by omega, by go_num, by go_num⟩
          case measure => simp [intOf]; omega
        · obtain rfl : i = h := by omega
          have hB3 : Buf (wr.alloc (.cells #[.int .i64 (t : Int)] 3)) (w.heap.size + 1) R d ys := hB.next (by (repeat (first | exact Below.refl _ _ | assumption | refine lo_alloc ?_ _ | refine lo_set ?_ (by simp; try omega) _ | refine Below.drew ?_ | refine below_drewN ?_ _ | refine lo_trans ?_ (by assumption) | refine lo_wr ?_ (by assumption) (by omega))))
          have hK3 : Blk (wr.alloc (.cells #[.int .i64 (t : Int)] 3)) w.heap.size _ _ := hK.alloc (.cells #[.int .i64 (t : Int)] 3)
          have hL3 : Below w.heap.size w (wr.alloc (.cells #[.int .i64 (t : Int)] 3)) := lo_alloc hL _
          have hrd : Rd (wr.alloc (.cells (ints [(t : Int)]) 3)) (some ⟨wr.heap.size, 0, none⟩) 1 [(t : Int)] := Rd.of_blk (Blk.new _ _ _)
          clear hK hB hL hRr
          go_wp2_with (at_builtin; refine (wpl_append rfl _ _ rfl (w.heap.size + 1) R d k ys rfl hyl'.out.symm hB3 _ 1 1 [(t : Int)] rfl hrd (by omega) (by omega) (by simp; omega) ?_); intro g c' w4 hB4 hg4 hat)
          have hBk := rowA_ge hB3
          go_roundw
          case rel =>
            refine ⟨k + 1, _, c', _, by omega, by go_num, rfl, by simp [hyl'.out], hB4, Lib.hid ?_, hL3.grown hg4 hL3.size (fun g hg => by have := hBk g hg; omega), hK3.grown hg4 (fun e => by have := hBk _ e.symm; omega)⟩
            intro y hy
            rcases List.mem_append.1 hy with h | h
            · exact hY.out y h
            · simp at h; omega
          case measure => simp [intOf]; omega
    · obtain rfl : k = m := by omega
      go_wp2
      go_ret
      exact ⟨_, _, ys, rfl, hB.mono (by omega), hyl'.out, hY, hL⟩
end Go.Proofs.Ytljmlhcmjgepcaa
