/- Plain facts and walks that the law's proof uses; each says its own conditions. -/
import Derived.Test.YteabnljjogiflaaGreatDoorZ13
import Derived.Test.YteabnljjogiflaaGreatDoorZ10
import Derived.Test.YteabnljjogiflaaGreatDoorZ12
import Derived.Test.YteabnljjogiflaaGreatDoorZ11
import Derived.Deep.RegionHeld3
import Derived.Deep.QuietTactic
import Derived.BigQuiet
-- Plain facts and walks that the law's proof uses; each says its own conditions.
namespace Go.Proofs.YteabnljjogiflaaGreatDoor
open Go.RowKit
set_option maxRecDepth 100000

theorem img_row {f : Nat → Nat → Bool} {h m i : Nat} (hm : m ≤ 6) (hi : i < h) : ∃ r : Nat, (img f h m)[i]?.getD 0 = (r : Int) ∧ r < 64 := by
  refine ⟨_, img_get hi, Nat.lt_of_lt_of_le (mkRow_lt _ _) ?_⟩
  exact Nat.pow_le_pow_right (by omega) hm

theorem Buf.set {w : World} {base g c k : Nat} {xs : List Int} (h : Buf w base (some ⟨g, 0, none⟩) c xs) (y : Int) : Buf (w.setCell ⟨g, k, none⟩ (.int .i64 y)) base (some ⟨g, 0, none⟩) c (xs.set k y) := by
  rcases h.2 with ⟨hv, _⟩ | ⟨g', cap, cur, hv, hb, hh, hn, hm, hs, ht⟩
  · injection hv with h1; cases h1
  · injection hv with h1 h2 h3
    injection h1 with h1
    injection h1 with h1
    subst h1
    subst h3
    refine ⟨by simp, .inr ⟨g, c, _, by simp, hb, Blk.set_ hh k _, by simpa using hn, hm, by simpa using hs, ?_⟩⟩
    rw [List.length_set, Array.toList_setIfInBounds, List.take_set, ht, List.map_set]
theorem Buf.mono {w : World} {lo lo' c : Nat} {A : Option Addr} {xs : List Int} (h : Buf w lo A c xs) (hl : lo' ≤ lo) : Buf w lo' A c xs := by
  refine ⟨h.1, ?_⟩
  rcases h.2 with h1 | ⟨g', cap, cur, hv, hb, hr⟩
  · exact .inl h1
  · exact .inr ⟨g', cap, cur, hv, Nat.le_trans hl hb, hr⟩

set_option maxHeartbeats 2000000 in
theorem l2Row_c (A : Option Addr) (n c m i : Nat) (xs : List Int) (w : World) (hr : Rd w A n xs) (hi : i < n) (_ : n ≤ 6) (hm : m ≤ 6) (hx : ∃ r : Nat, xs[i]?.getD 0 = (r : Int) ∧ r < 64) :
    Calls Tryz.prog 122 #[.agg #[.int .i64 m, .slice A n c], .int .i64 i] w fun e w' => ∃ s : Nat, e = .returned (.int .i64 s) ∧ s ≤ 6 ∧ Below w.heap.size w w' := by
  obtain ⟨r, hxr, hr64⟩ := hx
  have hR2 := hr.alloc (.cells #[.int .i64 m, .slice A n c] 29)
  obtain ⟨b, off, rfl, hb, hc⟩ := hR2.at_ hi
  rw [hxr] at hc
  clear hR2
  have hxr' := Lib.hid hxr; clear hxr
  go_enter Tryz.func122, Tryz.ntmps122
  have hK := Blk.new w 29 #[.int .i64 m, .slice (some ⟨b, off, none⟩) n c]
  go_wp2
  go_loop [5, 6] (fun s j => ∃ k t : Nat, k ≤ m ∧ t ≤ k ∧ j = .int .i64 k ∧ s = .int .i64 t) (fun _ j => m - (intOf j).toNat)
  case atStart => exact ⟨0, 0, by omega, by omega, rfl, rfl⟩
  case round =>
    obtain ⟨k, t, hk, htk, rfl, rfl⟩ := hrel
    have c0 := hK.cell 0
    have c1 := hK.cell 1
    by_cases hlt : k < m
    · go_wp2_with fail
      refine (l1Bit_c r k _ (by omega) (by omega)).mono ?_
      rintro e w' ⟨rfl, rfl⟩
      have h2 : r / 2 ^ k % 2 < 2 := Nat.mod_lt _ (by omega)
      generalize r / 2 ^ k % 2 = v at h2 ⊢
      go_wp2
      go_round
      case rel => exact ⟨k + 1, t + v, by omega, by omega, by go_num, by go_num⟩
      case measure => simp [intOf]; omega
    · obtain rfl : k = m := by omega
      go_wp2
      go_ret
      exact ⟨t, rfl, by omega, by (repeat (first | exact Below.refl _ _ | assumption | refine lo_alloc ?_ _ | refine lo_set ?_ (by simp; try omega) _ | refine Below.drew ?_ | refine below_drewN ?_ _ | refine lo_trans ?_ (by assumption) | refine lo_wr ?_ (by assumption) (by omega)))⟩

set_option maxHeartbeats 4000000 in
theorem spec_RowSums_c (A : Option Addr) (h c m : Nat) (f : Nat → Nat → Bool) (w : World) (hr : Rd w A h (img f h m)) (h1 : 1 ≤ h) (h6 : h ≤ 6) (m1 : 1 ≤ m) (m6 : m ≤ 6) :
    Calls Tryz.prog 79 #[.agg #[.int .i64 m, .slice A h c]] w fun e w' => ∃ (R : Option Addr) (d : Nat) (ys : List Int), e = .returned (.slice R h d) ∧ Buf w' w.heap.size R d ys ∧ ys.length = h ∧ Hid (∀ y ∈ ys, 0 ≤ y ∧ y ≤ 6) ∧ Below w.heap.size w w' := by
  go_enter Tryz.func79, Tryz.ntmps79
  have hK0 : Blk ((w.alloc (.cells #[.int .i64 m, .slice A h c] 29)).alloc (.cells #[] 3)) w.heap.size 29 #[.int .i64 m, .slice A h c] := (Blk.new w 29 #[.int .i64 m, .slice A h c]).alloc _
  have hB0 : Buf ((w.alloc (.cells #[.int .i64 m, .slice A h c] 29)).alloc (.cells #[] 3)) (w.heap.size + 1) (some ⟨w.heap.size + 1, 0, none⟩) 0 [] :=
    ⟨rfl, .inr ⟨w.heap.size + 1, 0, #[], rfl, Nat.le_refl _, heap_at2 w _ 3 #[], Nat.le_refl _, Nat.zero_le _, rfl, rfl⟩⟩
  have hL0 : Below w.heap.size w ((w.alloc (.cells #[.int .i64 m, .slice A h c] 29)).alloc (.cells #[] 3)) := lo_alloc (lo_alloc (Below.refl _ _) _) _
  go_wp2
  go_loopw [3, 4] (fun v i wr => ∃ (k : Nat) (R : Option Addr) (d : Nat) (ys : List Int), k ≤ h ∧ i = .int .i64 k ∧ v = .slice R k d ∧ ys.length = k ∧ Buf wr (w.heap.size + 1) R d ys ∧
      Hid (∀ y ∈ ys, 0 ≤ y ∧ y ≤ 6) ∧ Below w.heap.size w wr ∧ Blk wr w.heap.size 29 #[.int .i64 m, .slice A h c]) (fun _ i _ => h - (intOf i).toNat)
  case atStart => exact ⟨0, _, 0, [], Nat.zero_le _, rfl, rfl, rfl, hB0, Lib.hid (by simp), hL0, hK0⟩
  case round =>
    clear hB0 hL0 hK0
    obtain ⟨k, R, d, ys, hk, rfl, rfl, hyl, hB, hY, hL, hK⟩ := hrel
    have hyl' := Lib.hid hyl; clear hyl
    have hzr := hK.lt
    have c0 := hK.cell 0
    have c1 := hK.cell 1
    by_cases hlt : k < h
    · go_wp2_with fail
      refine (spec_ImageValid_c _ _ _ _ (img f h m) _ (hr.next hL) (by omega)).mono ?_
      rw [okB_img h1 h6 m1 m6]
      rintro e w1 ⟨rfl, hb1⟩
      have hK1 := hK.next hb1
      clear c0 c1
      have c0 := hK1.cell 0
      have c1 := hK1.cell 1
      have hs1 := hb1.size
      go_wp2_with fail
      refine (l2Row_c _ _ _ _ _ (img f h m) _ (hr.next (lo_trans hL hb1)) hlt h6 m6 (img_row m6 hlt)).mono ?_
      rintro e w2 ⟨s, rfl, hs6, hb2⟩
      have hs2 := hb2.size
      have hbB : Below wr.heap.size wr w2 := lo_trans hb1 hb2
      have hB3 : Buf (w2.alloc (.cells #[.int .i64 (s : Int)] 3)) (w.heap.size + 1) R d ys := (hB.next hbB).next (by (repeat (first | exact Below.refl _ _ | assumption | refine lo_alloc ?_ _ | refine lo_set ?_ (by simp; try omega) _ | refine Below.drew ?_ | refine below_drewN ?_ _ | refine lo_trans ?_ (by assumption) | refine lo_wr ?_ (by assumption) (by omega))))
      have hK3 : Blk (w2.alloc (.cells #[.int .i64 (s : Int)] 3)) w.heap.size _ _ := (hK1.next hb2).alloc (.cells #[.int .i64 (s : Int)] 3)
      have hL3 : Below w.heap.size w (w2.alloc (.cells #[.int .i64 (s : Int)] 3)) := lo_alloc (lo_trans hL hbB) _
      have hrd : Rd (w2.alloc (.cells (ints [(s : Int)]) 3)) (some ⟨w2.heap.size, 0, none⟩) 1 [(s : Int)] := Rd.of_blk (Blk.new _ _ _)
      clear hb1 hb2 hbB c0 c1 hK hK1 hB hL
      go_wp2_with (at_builtin; refine (wpl_append rfl _ _ rfl (w.heap.size + 1) R d k ys rfl hyl'.out.symm hB3 _ 1 1 [(s : Int)] rfl hrd (by omega) (by omega) (by simp; omega) ?_); intro g c' w4 hB4 hg4 hat)
      have hBk := rowA_ge hB3
      go_roundw
      case rel =>
        refine ⟨k + 1, _, c', _, by omega, by go_num, rfl, by simp [hyl'.out], hB4, Lib.hid ?_, hL3.grown hg4 hL3.size (fun g hg => by have := hBk g hg; omega), hK3.grown hg4 (fun e => by have := hBk _ e.symm; omega)⟩
        intro y hy
        rcases List.mem_append.1 hy with h | h
        · exact hY.out y h
        · simp at h; omega
      case measure => simp [intOf]; omega
    · obtain rfl : k = h := by omega
      go_wp2
      go_ret
      exact ⟨_, _, ys, rfl, hB.mono (by omega), hyl'.out, hY, hL⟩

set_option maxHeartbeats 4000000 in
theorem spec_ColSums_c (A : Option Addr) (h c m : Nat) (f : Nat → Nat → Bool) (w : World) (hr : Rd w A h (img f h m)) (h1 : 1 ≤ h) (h6 : h ≤ 6) (m1 : 1 ≤ m) (m6 : m ≤ 6) :
    Calls Tryz.prog 80 #[.agg #[.int .i64 m, .slice A h c]] w fun e w' => ∃ (R : Option Addr) (d : Nat) (ys : List Int), e = .returned (.slice R m d) ∧ Buf w' w.heap.size R d ys ∧ ys.length = m ∧ Hid (∀ y ∈ ys, 0 ≤ y ∧ y ≤ 6) ∧ Below w.heap.size w w' := by
  go_enter Tryz.func80, Tryz.ntmps80
  have hK0 : Blk ((w.alloc (.cells #[.int .i64 m, .slice A h c] 29)).alloc (.cells #[] 3)) w.heap.size 29 #[.int .i64 m, .slice A h c] := (Blk.new w 29 #[.int .i64 m, .slice A h c]).alloc _
  have hB0 : Buf ((w.alloc (.cells #[.int .i64 m, .slice A h c] 29)).alloc (.cells #[] 3)) (w.heap.size + 1) (some ⟨w.heap.size + 1, 0, none⟩) 0 [] :=
    ⟨rfl, .inr ⟨w.heap.size + 1, 0, #[], rfl, Nat.le_refl _, heap_at2 w _ 3 #[], Nat.le_refl _, Nat.zero_le _, rfl, rfl⟩⟩
  have hL0 : Below w.heap.size w ((w.alloc (.cells #[.int .i64 m, .slice A h c] 29)).alloc (.cells #[] 3)) := lo_alloc (lo_alloc (Below.refl _ _) _) _
  have c0 := hK0.cell 0
  have c1 := hK0.cell 1
  go_wp2_with fail
  refine (spec_ImageValid_c _ _ _ _ (img f h m) _ (hr.next hL0) (by omega)).mono ?_
  rw [okB_img h1 h6 m1 m6]
  rintro e w1 ⟨rfl, hb1⟩
  have hK1 := hK0.next hb1
  have hB1 := hB0.next hb1
  have hL1 := lo_trans hL0 hb1
  clear hK0 hB0 hL0 c0 c1 hb1
  go_wp2
  go_loopw [3, 4] (fun v i wr => ∃ (k : Nat) (R : Option Addr) (d : Nat) (ys : List Int), k ≤ m ∧ i = .int .i64 k ∧ v = .slice R k d ∧ ys.length = k ∧ Buf wr (w.heap.size + 1) R d ys ∧
      Hid (∀ y ∈ ys, 0 ≤ y ∧ y ≤ 6) ∧ Below w.heap.size w wr ∧ Blk wr w.heap.size 29 #[.int .i64 m, .slice A h c]) (fun _ i _ => m - (intOf i).toNat)
  case atStart => exact ⟨0, _, 0, [], Nat.zero_le _, rfl, rfl, rfl, hB1, Lib.hid (by simp), hL1, hK1⟩
  case round =>
    clear hB1 hL1 hK1
    obtain ⟨k, R, d, ys, hk, rfl, rfl, hyl, hB, hY, hL, hK⟩ := hrel
    have hyl' := Lib.hid hyl; clear hyl
    have hzr := hK.lt
    have c0 := hK.cell 0
    have c1 := hK.cell 1
    have hRr := hr.next hL
    by_cases hlt : k < m
    · go_wp2
      go_loop [5, 6] (fun s i => ∃ i' t : Nat, i' ≤ h ∧ t ≤ i' ∧ i = .int .i64 i' ∧ s = .int .i64 t) (fun _ i => h - (intOf i).toNat)
      case atStart => exact ⟨0, 0, by omega, by omega, rfl, rfl⟩
      case round =>
        obtain ⟨i, t, hi, hti, rfl, rfl⟩ := hrel
        by_cases hlt2 : i < h
        · obtain ⟨b, off, rfl, hb, hc⟩ := hRr.at_ hlt2
          obtain ⟨r, hxr, hr64⟩ := img_row (f := f) (m := m) m6 hlt2
          rw [hxr] at hc
          have hxr' := Lib.hid hxr; clear hxr
          go_wp2_with fail
          refine (l1Bit_c r k _ (by omega) (by omega)).mono ?_
          rintro e w' ⟨rfl, rfl⟩
          have h2 : r / 2 ^ k % 2 < 2 := Nat.mod_lt _ (by omega)
          generalize r / 2 ^ k % 2 = v at h2 ⊢
          go_wp2
          go_round
          case rel => exact ⟨i + 1, t + v, by omega, by omega, by go_num, by go_num⟩
          case measure => simp [intOf]; omega
        · obtain rfl : i = h := by omega
          have hB3 : Buf (wr.alloc (.cells #[.int .i64 (t : Int)] 3)) (w.heap.size + 1) R d ys := hB.next (by (repeat (first | exact Below.refl _ _ | assumption | refine lo_alloc ?_ _ | refine lo_set ?_ (by simp; try omega) _ | refine Below.drew ?_ | refine below_drewN ?_ _ | refine lo_trans ?_ (by assumption) | refine lo_wr ?_ (by assumption) (by omega))))
          have hK3 : Blk (wr.alloc (.cells #[.int .i64 (t : Int)] 3)) w.heap.size _ _ := hK.alloc (.cells #[.int .i64 (t : Int)] 3)
          have hL3 : Below w.heap.size w (wr.alloc (.cells #[.int .i64 (t : Int)] 3)) := lo_alloc hL _
          have hrd : Rd (wr.alloc (.cells (ints [(t : Int)]) 3)) (some ⟨wr.heap.size, 0, none⟩) 1 [(t : Int)] := Rd.of_blk (Blk.new _ _ _)
          clear hK hB hL hRr
          go_wp2_with (at_builtin; refine (wpl_append rfl _ _ rfl (w.heap.size + 1) R d k ys rfl hyl'.out.symm hB3 _ 1 1 [(t : Int)] rfl hrd (by omega) (by omega) (by simp; omega) ?_); intro g c' w4 hB4 hg4 hat)
          have hBk := rowA_ge hB3
          go_roundw
          case rel =>
            refine ⟨k + 1, _, c', _, by omega, by go_num, rfl, by simp [hyl'.out], hB4, Lib.hid ?_, hL3.grown hg4 hL3.size (fun g hg => by have := hBk g hg; omega), hK3.grown hg4 (fun e => by have := hBk _ e.symm; omega)⟩
            intro y hy
            rcases List.mem_append.1 hy with h | h
            · exact hY.out y h
            · simp at h; omega
          case measure => simp [intOf]; omega
    · obtain rfl : k = m := by omega
      go_wp2
      go_ret
      exact ⟨_, _, ys, rfl, hB.mono (by omega), hyl'.out, hY, hL⟩
end Go.Proofs.YteabnljjogiflaaGreatDoor

-- Walks: drawn sums, the reference's l91Sums, l91SumsWrong, l93Any.
namespace Go.Proofs.YteabnljjogiflaaGreatDoor
open Go.RowKit
set_option maxRecDepth 100000

theorem Buf.at_ {w : World} {base c k n : Nat} {A : Option Addr} {xs : List Int} (h : Buf w base A c xs) (hn : xs.length = n) (hk : k < n) : ∃ g, A = some ⟨g, 0, none⟩ ∧ base ≤ g ∧ g < w.heap.size ∧ w.cell? ⟨g, k, none⟩ = some (.int .i64 (xs[k]?.getD 0)) ∧ w.frozen? ⟨g, k, none⟩ = false := by
  have hO := h.own
  rw [hn] at hO
  obtain ⟨g, h1, h2, h3, h4, h5, _⟩ := hO.at_ hk
  exact ⟨g, h1, h2, h3, h4, h5⟩
theorem Buf.kept_lo {w w' : World} {base c : Nat} {A : Option Addr} {xs : List Int} (h : Buf w base A c xs) {row : Option Nat} (hg : w.grownBy w' row) (hr : ∀ g, row = some g → g < base) : Buf w' base A c xs :=
  h.kept hg (fun g e e' => by have := hr g e'; have := h.lt g e; omega)

theorem Buf.le {w : World} {base c n : Nat} {A : Option Addr} {xs : List Int} (h : Buf w base A c xs) (hn : xs.length = n) : n ≤ c := by
  subst hn
  rcases h.2 with ⟨hv, _⟩ | ⟨g', cap, cur, hv, hb, hh, hn, _⟩
  · injection hv with _ h2 h3; omega
  · injection hv with _ h2 h3; omega

def DrawnSums (w : World) (lo b p k : Nat) (e : Ending) (w' : World) : Prop :=
  ∃ (R : Option Addr) (n c : Nat) (Q : Option Addr) (m d q : Nat) (xs ys : List Int), e = .returned (.tuple #[.slice R n c, .slice Q m d]) ∧ 1 ≤ n ∧ n ≤ 6 ∧ 1 ≤ m ∧ m ≤ 6 ∧ xs.length = n ∧ ys.length = m ∧
    Buf w' w.heap.size R c xs ∧ Buf w' w.heap.size Q d ys ∧ Hid (∀ g, R = some ⟨g, 0, none⟩ → Q ≠ some ⟨g, 0, none⟩) ∧ w.grownBy w' (some b) ∧ Rdr w' lo b q ∧ q ≤ p + k

set_option maxHeartbeats 4000000 in
theorem l91Sums_c (lo b p : Nat) (w : World) (h : Rdr w lo b p) (hp : p ≤ 500000) :
    Calls Tryz.prog 67 #[.pointer (some ⟨b, 0, none⟩), .int .i64 36] w (DrawnSums w lo b p 70) := by
  have hbz := h.lt
  go_enter Tryz.func67, Tryz.ntmps67
  go_wp2_with fail
  refine (l91Image_c lo b p 36 _ h (by omega) (by omega) (by omega)).mono ?_
  rintro e w1 ⟨a, m, g, q, f, rfl, ha1, ha2, hm1, hm2, hg, hk1, hg1, hr1, hq⟩
  have hgw := hk1.lt
  have hz1 := hg1.size
  obtain ⟨wz, hwz⟩ : ∃ wz, wz = w1.alloc (.cells #[.int .i64 m, .slice (some ⟨g, 0, none⟩) a a] 29) := ⟨_, rfl⟩
  have hO : Blk wz w1.heap.size 29 #[.int .i64 m, .slice (some ⟨g, 0, none⟩) a a] := by rw [hwz]; exact Blk.new _ _ _
  have hI : Rd wz (some ⟨g, 0, none⟩) a (img f a m) := by rw [hwz]; exact (Own.of_blk (hk1.alloc _) hg (img_len _ _ _)).rd
  have hG : w.grownBy wz (some b) := by rw [hwz]; exact grown_trans hg1 (grown_alloc _ _)
  have hR : Rdr wz lo b q := by rw [hwz]; exact hr1.next (by (repeat (first | exact Below.refl _ _ | assumption | refine lo_alloc ?_ _ | refine lo_set ?_ (by simp; try omega) _ | refine Below.drew ?_ | refine below_drewN ?_ _ | refine lo_trans ?_ (by assumption) | refine lo_wr ?_ (by assumption) (by omega))))
  have hzz : wz.heap.size = w1.heap.size + 1 := by rw [hwz]; simp
  clear hk1 hg1 hr1
  go_wp2_with fail
  rw [← hwz]
  have hwz' := Lib.hid hwz; clear hwz
  have o0 := hO.cell 0
  have o1 := hO.cell 1
  go_wp2_with fail
  refine (spec_RowSums_c _ _ _ _ f _ hI ha1 ha2 hm1 hm2).mono ?_
  rintro e w2 ⟨R, c, xs, rfl, hB2, hxl, hX, hb2⟩
  have hO2 := hO.next hb2
  have hz2 := hb2.size
  clear o0 o1
  have o0 := hO2.cell 0
  have o1 := hO2.cell 1
  have hxl' := Lib.hid hxl; clear hxl
  go_wp2_with fail
  refine (spec_ColSums_c _ _ _ _ f _ (hI.next hb2) ha1 ha2 hm1 hm2).mono ?_
  rintro e w3 ⟨Q, d, ys, rfl, hQ3, hyl, hY, hb3⟩
  have hyl' := Lib.hid hyl; clear hyl
  have hz3 := hb3.size
  have hB3 := hB2.next hb3
  have hD : Hid (∀ g, R = some ⟨g, 0, none⟩ → Q ≠ some ⟨g, 0, none⟩) := Lib.hid (fun g e e' => by have := hB2.lt g e; have := hQ3.lt g e'; omega)
  have hG3 : w.grownBy w3 (some b) := grown_trans (grown_trans hG (grown_of_below hb2 _)) (grown_of_below hb3 _)
  have hR3 := (hR.next hb2).next hb3
  have hB3' := hB3.mono (show w.heap.size ≤ wz.heap.size by omega)
  have hQ3' := hQ3.mono (show w.heap.size ≤ w2.heap.size by omega)
  clear hO hO2 hI hb2 hb3 hB2 hQ3 hB3 hG hR o0 o1
  go_wp2_with fail
  refine (pick_c lo b q _ _ hR3 (by omega)).mono ?_
  rintro e w4 ⟨x, rfl, _, hg4, hr4⟩
  have hB4 := hB3'.kept_lo hg4 (by rintro _ ⟨⟩; exact hbz)
  have hQ4 := hQ3'.kept_lo hg4 (by rintro _ ⟨⟩; exact hbz)
  have hG4 := grown_trans hG3 hg4
  have hz4 := hg4.size
  clear hB3' hQ3' hG3 hg4 hR3
  by_cases s0 : x = 0
  · have s0' : ((x : Int) == 0) = true := by simp; omega
    clear s0
    go_wp2_with fail
    refine (pick_c lo b _ _ _ hr4 (by omega)).mono ?_
    rintro e w5 ⟨x5, rfl, hx5, hg5, hr5⟩
    have hy5 := hx5 (by omega)
    go_wp2_with fail
    refine (pick_c lo b _ _ _ hr5 (by omega)).mono ?_
    rintro e w6 ⟨x6, rfl, hx6, hg6, hr6⟩
    have hy6 := hx6 (by omega)
    clear hx5 hx6
    have hB6 := (hB4.kept_lo hg5 (by rintro _ ⟨⟩; exact hbz)).kept_lo hg6 (by rintro _ ⟨⟩; exact hbz)
    have hQ6 := (hQ4.kept_lo hg5 (by rintro _ ⟨⟩; exact hbz)).kept_lo hg6 (by rintro _ ⟨⟩; exact hbz)
    have hG6 := grown_trans (grown_trans hG4 hg5) hg6
    obtain ⟨gA, rfl, lA, zA, cA, fA⟩ := hB6.at_ (k := x5) hxl'.out (by omega)
    have hF := hB6.set (k := x5) (x6 : Int)
    have hQF := hQ6.kept (grown_set (w := w6) (g := gA) (k := x5) (.int .i64 (x6 : Int))) (fun g e e' => by injection e' with e'; subst e'; exact hD.out _ rfl e)
    have hGF := grown_over hG6 (grown_set (w := w6) (g := gA) (k := x5) (.int .i64 (x6 : Int))) (by rintro _ ⟨⟩; omega)
    have hRF := hr6.grown (grown_set (w := w6) (g := gA) (k := x5) (.int .i64 (x6 : Int))) (by omega)
    clear hB4 hQ4 hG4 hg5 hg6 hr4 hr5 hr6 hB6 hQ6 hG6
    go_wp2
    go_ret2
    exact ⟨_, _, _, _, _, _, _, _, _, rfl, ha1, ha2, hm1, hm2, by rw [List.length_set]; exact hxl'.out, hyl'.out, hF, hQF, hD, hGF, hRF, by omega⟩
  have s0' : ((x : Int) == 0) = false := by simp; omega
  by_cases s1 : x = 1
  · have s1' : ((x : Int) == 1) = true := by simp; omega
    clear s0 s1
    go_wp2_with fail
    refine (pick_c lo b _ _ _ hr4 (by omega)).mono ?_
    rintro e w5 ⟨x5, rfl, hx5, hg5, hr5⟩
    have hy5 := hx5 (by omega)
    go_wp2_with fail
    refine (pick_c lo b _ _ _ hr5 (by omega)).mono ?_
    rintro e w6 ⟨x6, rfl, hx6, hg6, hr6⟩
    have hy6 := hx6 (by omega)
    clear hx5 hx6
    have hB6 := (hB4.kept_lo hg5 (by rintro _ ⟨⟩; exact hbz)).kept_lo hg6 (by rintro _ ⟨⟩; exact hbz)
    have hQ6 := (hQ4.kept_lo hg5 (by rintro _ ⟨⟩; exact hbz)).kept_lo hg6 (by rintro _ ⟨⟩; exact hbz)
    have hG6 := grown_trans (grown_trans hG4 hg5) hg6
    obtain ⟨gA, rfl, lA, zA, cA, fA⟩ := hQ6.at_ (k := x5) hyl'.out (by omega)
    have hv5 := hY.out _ (mem_at (show x5 < ys.length by rw [hyl'.out]; omega))
    have hvS : ∀ j, j < m → -1 ≤ (ys.set x5 (ys[x5]?.getD 0 + 1))[j]?.getD 0 ∧ (ys.set x5 (ys[x5]?.getD 0 + 1))[j]?.getD 0 ≤ 7 := by
      intro j hj
      have hm' := mem_at (show j < (ys.set x5 (ys[x5]?.getD 0 + 1)).length by rw [List.length_set, hyl'.out]; exact hj)
      rcases List.mem_or_eq_of_mem_set hm' with h | h
      · have := hY.out _ h; omega
      · omega
    have hv6 := hvS x6 (by omega)
    clear hvS
    have hQ7 := hQ6.set (k := x5) (ys[x5]?.getD 0 + 1)
    generalize ys[x5]?.getD 0 = v5 at cA hv5 hv6 hQ7 ⊢
    have hB7 := hB6.kept (grown_set (w := w6) (g := gA) (k := x5) (.int .i64 (v5 + 1))) (fun g e e' => by injection e' with e'; subst e'; exact hD.out _ e rfl)
    have hG7 := grown_over hG6 (grown_set (w := w6) (g := gA) (k := x5) (.int .i64 (v5 + 1))) (by rintro _ ⟨⟩; omega)
    have hR7 := hr6.grown (grown_set (w := w6) (g := gA) (k := x5) (.int .i64 (v5 + 1))) (by omega)
    obtain ⟨_, e1, _, _, cA2, fA2⟩ := hQ7.at_ (k := x6) (n := m) (by rw [List.length_set]; exact hyl'.out) (by omega)
    cases e1
    have hQ8 := hQ7.set (k := x6) ((ys.set x5 (v5 + 1))[x6]?.getD 0 - 1)
    have hl8 := Lib.hid (show ((ys.set x5 (v5 + 1)).set x6 ((ys.set x5 (v5 + 1))[x6]?.getD 0 - 1)).length = m by rw [List.length_set, List.length_set]; exact hyl'.out)
    generalize (ys.set x5 (v5 + 1))[x6]?.getD 0 = v6 at cA2 hv6 hQ8 hl8 ⊢
    have hB8 := hB7.kept (grown_set (g := gA) (k := x6) (.int .i64 (v6 - 1))) (fun g e e' => by injection e' with e'; subst e'; exact hD.out _ e rfl)
    have hG8 := grown_over hG7 (grown_set (g := gA) (k := x6) (.int .i64 (v6 - 1))) (by rintro _ ⟨⟩; omega)
    have hR8 := hR7.grown (grown_set (g := gA) (k := x6) (.int .i64 (v6 - 1))) (by omega)
    clear hB4 hQ4 hG4 hg5 hg6 hr4 hr5 hr6 hB6 hQ6 hG6 hB7 hG7 hR7 hQ7
    go_wp2
    go_ret2
    exact ⟨_, _, _, _, _, _, _, _, _, rfl, ha1, ha2, hm1, hm2, hxl'.out, hl8.out, hB8, hQ8, hD, hG8, hR8, by omega⟩
  have s1' : ((x : Int) == 1) = false := by simp; omega
  by_cases s2 : x = 2
  · have s2' : ((x : Int) == 2) = true := by simp; omega
    clear s0 s1 s2
    go_wp2_with fail
    refine (pick_c lo b _ _ _ hr4 (by omega)).mono ?_
    rintro e w5 ⟨x5, rfl, hx5, hg5, hr5⟩
    have hy5 := hx5 (by omega)
    clear hx5
    have hB6 := hB4.kept_lo hg5 (by rintro _ ⟨⟩; exact hbz)
    have hQ6 := hQ4.kept_lo hg5 (by rintro _ ⟨⟩; exact hbz)
    have hG6 := grown_trans hG4 hg5
    obtain ⟨gA, rfl, lA, zA, cA, fA⟩ := hQ6.at_ (k := 0) hyl'.out (by omega)
    have hF := hQ6.set (k := 0) ((a : Int) + (x5 : Int))
    have hBF := hB6.kept (grown_set (w := w5) (g := gA) (k := 0) (.int .i64 ((a : Int) + (x5 : Int)))) (fun g e e' => by injection e' with e'; subst e'; exact hD.out _ e rfl)
    have hGF := grown_over hG6 (grown_set (w := w5) (g := gA) (k := 0) (.int .i64 ((a : Int) + (x5 : Int)))) (by rintro _ ⟨⟩; omega)
    have hRF := hr5.grown (grown_set (w := w5) (g := gA) (k := 0) (.int .i64 ((a : Int) + (x5 : Int)))) (by omega)
    clear hB4 hQ4 hG4 hg5 hr4 hr5 hB6 hQ6 hG6
    go_wp2
    go_ret2
    exact ⟨_, _, _, _, _, _, _, _, _, rfl, ha1, ha2, hm1, hm2, hxl'.out, by rw [List.length_set]; exact hyl'.out, hBF, hF, hD, hGF, hRF, by omega⟩
  · have s2' : ((x : Int) == 2) = false := by simp; omega
    clear s0 s1 s2
    go_wp2
    go_ret2
    exact ⟨_, _, _, _, _, _, _, _, _, rfl, ha1, ha2, hm1, hm2, hxl'.out, hyl'.out, hB4, hQ4, hD, hG4, hr4, by omega⟩
end Go.Proofs.YteabnljjogiflaaGreatDoor

-- Walks: drawn sums that may be wrong; sums at random.
namespace Go.Proofs.YteabnljjogiflaaGreatDoor
open Go.RowKit
set_option maxRecDepth 100000

def DrawnList (w : World) (lo b p k : Nat) (e : Ending) (w' : World) : Prop :=
  ∃ (R : Option Addr) (n c : Nat) (Q : Option Addr) (m d q : Nat) (xs ys : List Int), e = .returned (.tuple #[.slice R n c, .slice Q m d]) ∧ n ≤ 12 ∧ m ≤ 12 ∧ n ≤ c ∧ m ≤ d ∧
    Own w' w.heap.size R n xs ∧ Own w' w.heap.size Q m ys ∧ w.grownBy w' (some b) ∧ Rdr w' lo b q ∧ q ≤ p + k

def DrawnTwoS (w : World) (e : Ending) (w' : World) : Prop :=
  ∃ (R : Option Addr) (n c : Nat) (Q : Option Addr) (m d : Nat) (xs ys : List Int), e = .returned (.tuple #[.slice R n c, .slice Q m d]) ∧ n ≤ 12 ∧ m ≤ 12 ∧ n ≤ c ∧ m ≤ d ∧
    Own w' w.heap.size R n xs ∧ Own w' w.heap.size Q m ys ∧ Below w.heap.size w w'
def DrawnThree (w : World) (e : Ending) (w' : World) : Prop :=
  ∃ (R : Option Addr) (n c : Nat) (Q : Option Addr) (m d : Nat) (xs ys : List Int) (t : Int), e = .returned (.tuple #[.slice R n c, .slice Q m d, .int .i64 t]) ∧ n ≤ 12 ∧ m ≤ 12 ∧ n ≤ c ∧ m ≤ d ∧
    Own w' w.heap.size R n xs ∧ Own w' w.heap.size Q m ys ∧ Below w.heap.size w w'

end Go.Proofs.YteabnljjogiflaaGreatDoor

-- Walks: SumsExcess, FillMost; sumOf.
namespace Go.Proofs.YteabnljjogiflaaGreatDoor
open Go.RowKit
set_option maxRecDepth 100000

/-- the greatest excess among the first k -/
def eM (r c : List Int) : Nat → Int
  | 0 => 0
  | k + 1 => max (eM r c k) (exc r c k)
theorem eM_ge (r c : List Int) : ∀ {k s : Nat}, s < k → exc r c s ≤ eM r c k
  | k + 1, s, h => by
    simp only [eM]
    rcases Nat.lt_or_ge s k with h1 | h1
    · have := eM_ge r c h1; omega
    · obtain rfl : s = k := by omega
      omega
theorem eM_zero (r c : List Int) : ∀ {k : Nat}, (∀ s, s < k → exc r c s ≤ 0) → eM r c k = 0
  | 0, _ => rfl
  | k + 1, h => by
    simp only [eM]
    rw [eM_zero r c (fun s hs => h s (by omega))]
    have := h k (by omega)
    omega
/-- SumsExcess -/
def sEx (r c : List Int) : Int := if sV r c = true then eM r c (r.length + 1) else -1
theorem sEx_some {r c : List Int} {t : Nat} (h : pOf r c = some t) : 0 < sEx r c := by
  obtain ⟨h1, _, h3, h4⟩ := pOk_iff.1 (pOf_some h).1
  rw [Int.toNat_natCast] at h4
  rw [sEx, if_pos h1]
  have := eM_ge r c (show t < r.length + 1 by omega)
  omega
theorem sEx_none {r c : List Int} (h : pOf r c = none) : sEx r c ≤ 0 := by
  rw [sEx]
  split
  · rename_i hv
    rw [eM_zero]
    · exact Int.le_refl _
    · intro s hs
      rcases Int.lt_or_le 0 (exc r c s) with h1 | h1
      · have := pOf_none h (s : Nat)
        rw [pOk_iff.2 ⟨hv, by omega, by omega, by rw [Int.toNat_natCast]; exact h1⟩] at this
        cases this
      · exact h1
  · omega

/-- the least among the first k -/
def fM (r c : List Int) : Nat → Int
  | 0 => r.sum
  | k + 1 => min (fM r c k) (r.sum - exc r c k)
theorem fM_le (r c : List Int) : ∀ {k s : Nat}, s < k → fM r c k ≤ r.sum - exc r c s
  | k + 1, s, h => by
    simp only [fM]
    rcases Nat.lt_or_ge s k with h1 | h1
    · have := fM_le r c h1; omega
    · obtain rfl : s = k := by omega
      omega
theorem exc_le_sum {r c : List Int} (hr : ∀ x ∈ r, 0 ≤ x) (hc : ∀ x ∈ c, 0 ≤ x) (t : Nat) : exc r c t ≤ r.sum := by
  have h1 := mSum_nonneg (c := c) (t := (t : Int)) hc (by omega)
  have h2 : tSum r t ≤ r.sum := by
    rw [tSum]
    have h3 : ((dsort r).take t).sum + ((dsort r).drop t).sum = r.sum := by
      rw [← List.sum_append, List.take_append_drop]
      exact perm_sum (dsort_perm r)
    have h4 : 0 ≤ ((dsort r).drop t).sum := by
      have : ∀ l : List Int, (∀ x ∈ l, 0 ≤ x) → 0 ≤ l.sum := by
        intro l
        induction l with
        | nil => intro _; simp
        | cons a l ih => intro h; have := ih (fun x hx => h x (by simp [hx])); have := h a (by simp); simp; omega
      exact this _ (fun x hx => hr x ((dsort_perm r).mem_iff.1 (List.mem_of_mem_drop hx)))
    omega
  rw [exc]
  omega
theorem fM_nonneg {r c : List Int} (hr : ∀ x ∈ r, 0 ≤ x) (hc : ∀ x ∈ c, 0 ≤ x) (h0 : 0 ≤ r.sum) : ∀ k, 0 ≤ fM r c k
  | 0 => h0
  | k + 1 => by
    simp only [fM]
    have := fM_nonneg hr hc h0 k
    have := exc_le_sum hr hc k
    omega
theorem exc_ge {r c : List Int} (hr : ∀ x ∈ r, 0 ≤ x ∧ x ≤ 6) (hc : ∀ x ∈ c, 0 ≤ x ∧ x ≤ 6) (hcl : c.length ≤ 6) (t : Nat) : -36 ≤ exc r c t := by
  have h1 := mSum_bd (cols := c) (t := (t : Int)) hc (by omega)
  have h2 := sum_bd (M := 6) (xs := (dsort r).take t) (fun x hx => hr x ((dsort_perm r).mem_iff.1 (List.mem_of_mem_take hx)))
  rw [exc, tSum]
  omega
/-- FillMost -/
def sFill (r c : List Int) : Int := if sV r c = true then fM r c (r.length + 1) else -1

end Go.Proofs.YteabnljjogiflaaGreatDoor

-- Walks: partitions: is one valid, sums of its head, one below the other; the conjugate; consistent sums.
namespace Go.Proofs.YteabnljjogiflaaGreatDoor
open Go.RowKit Go.Shelf
set_option maxRecDepth 100000

theorem pv_ent : ∀ args w, (callFunc 194 args).run Tryz.prog w = .ok (.enter 194 args) w :=
  enters_of Tryz.func194 (by kernel_rfl) rfl
theorem pv_call {W : World} {x y : Int} (hx : 0 ≤ x ∧ x ≤ 6) (hy : 0 ≤ y ∧ y ≤ 6) : Calls Tryz.prog 194 (#[.int .i64 x, .int .i64 y] ++ #[]) W fun e w' => e = .returned (.int .i64 (y - x)) ∧ Below W.heap.size W w' := by
  simp only [Array.append_empty]
  go_enter Tryz.func194, Tryz.ntmps194
  go_wp2
  go_ret
  exact ⟨rfl, Below.refl _ _⟩

set_option maxHeartbeats 4000000 in
theorem IsSorted_c (lo g n c : Nat) (L : List Int) (w : World) (ho : Own w lo (some ⟨g, 0, none⟩) n L) (hp : PV L) (hn0 : 0 < n) (hn : n ≤ 6) :
    Calls Tryz.prog 193 #[.slice (some ⟨g, 0, none⟩) n c, .func (.func 194) #[] #[]] w fun e w' => e = .returned (.bool true) ∧ Below w.heap.size w w' := by
  have hp' := Lib.hid hp; clear hp
  have hxl := Lib.hid ho.1
  go_enter Tryz.func193, Tryz.ntmps193
  go_wp2
  go_loopw [5] (fun i wr => ∃ k : Nat, k + 1 ≤ n ∧ i = .int .i64 k ∧ Below w.heap.size w wr) (fun i _ => (intOf i).toNat)
  case atStart => exact ⟨n - 1, by omega, by congr 1; omega, Below.refl _ _⟩
  case round =>
    obtain ⟨k, hk, rfl, hbl⟩ := hrel
    rcases Nat.eq_zero_or_pos k with h0 | h0
    · subst h0
      go_wp2
      go_ret
      exact ⟨rfl, hbl⟩
    · obtain ⟨p, rfl⟩ : ∃ p, k = p + 1 := ⟨k - 1, by omega⟩
      have ho' := ho.next hbl
      obtain ⟨_, hz, cx, _, _⟩ := ho'.cellSet' (k := p + 1) (by omega)
      obtain ⟨_, _, cy, _, _⟩ := ho'.cellSet' (k := p) (by omega)
      have hxb := hp'.out.bd _ (mem_at (show p + 1 < L.length by rw [hxl.out]; omega))
      have hyb := hp'.out.bd _ (mem_at (show p < L.length by rw [hxl.out]; omega))
      have hde := hp'.out.desc p (by rw [hxl.out]; omega)
      generalize L[p + 1]?.getD 0 = x at cx hxb hde
      generalize L[p]?.getD 0 = y at cy hyb hde
      have hxy := Lib.hid (show x ≤ y by omega)
      have hxb' := Lib.hid hxb
      have hyb' := Lib.hid hyb
      clear hxb hyb hde ho'
      have w1 : IntKind.i64.wrap ((p : Int) + 1 - 1) = (p : Int) := by rw [Int.add_sub_cancel]; exact IntWalk.i64_in _ (by omega)
      have hent := pv_ent
      have hd1 : decide ((0 : Int) < (p : Int) + 1) = true := decide_eq_true (by omega)
      have w3 : IntKind.i64.wrap (p : Int) = (p : Int) := IntWalk.i64_in _ (by omega)
      have w2 : IntKind.i64.wrap (((p + 1 : Nat) : Int) - 1) = (p : Int) := by rw [Int.natCast_add, Int.natCast_one]; exact w1
      have hp1 : (0 : Int) ≤ (p : Int) := by omega
      have hp2 : (p : Int) < (n : Int) := by omega
      have hp3 : (p : Int) + 1 < (n : Int) := by omega
      have hp4 : (0 : Int) ≤ (p : Int) + 1 := by omega
      have hp5 : ((p : Int) + 1).toNat = p + 1 := by omega
      go_wp2
      go_region_held3 (fun w' => w'.cell? ⟨g, p + 1, none⟩ = some (.int .i64 x) ∧ w'.cell? ⟨g, p, none⟩ = some (.int .i64 y))
        (first
          | exact ⟨(hb5.cell (p := ⟨g, p + 1, none⟩) hz).trans cx, (hb5.cell (p := ⟨g, p, none⟩) hz).trans cy⟩
          | exact ⟨cx, cy⟩)
        (first
          | (refine (pv_call hxb'.out hyb'.out).mono ?_
             rintro e w5 ⟨rfl, hb5⟩))
      clear w1 w2 w3
      have hb6 : Below w.heap.size w w5 := lo_trans hbl (lo_trans (Below.drew (Below.refl wr.heap.size wr)) hb5)
      clear cx cy hz hb5 hbl
      have hxy2 : decide (y - x < 0) = false := decide_eq_false (by have := hxy.out; omega)
      have hxy3 : ¬ (y - x < 0) := by have := hxy.out; omega
      go_wp2
      refine ⟨⟨p, by omega, rfl, hb6⟩, ?_⟩
      simp [intOf]
      try omega

theorem inParts_c (A : Option Addr) (n c : Nat) (L : List Int) (w : World) (hr : Rd w A n L) (hs : sIn 6 L = true) (hn0 : 0 < n) (hn : n ≤ 6) :
    Calls Tryz.prog 192 #[.slice A n c] w fun e w' => e = .returned (.bool true) ∧ w = w' := by
  have hn1 : ¬ n = 0 := by omega
  go_enter Tryz.func192, Tryz.ntmps192
  go_wp2_with fail
  refine (sumsInRange_c _ _ _ _ L _ hr (by omega)).mono ?_
  rw [hs]
  rintro e w' ⟨rfl, rfl⟩
  go_wp2
  go_ret
  exact ⟨rfl, rfl⟩
set_option maxHeartbeats 1000000 in
theorem PartValid_c (lo g n c : Nat) (L : List Int) (w : World) (ho : Own w lo (some ⟨g, 0, none⟩) n L) (hp : PV L) (hn0 : 0 < n) (hn : n ≤ 6) :
    Calls Tryz.prog 172 #[.slice (some ⟨g, 0, none⟩) n c] w fun e w' => e = .returned (.bool true) ∧ Below w.heap.size w w' := by
  have hs := Lib.hid (show sIn 6 L = true from sIn_yes (by rw [ho.1]; omega) (by rw [ho.1]; omega) (allIn_iff.2 hp.bd))
  have hp' := Lib.hid hp; clear hp
  go_enter Tryz.func172, Tryz.ntmps172
  go_wp2_with fail
  refine (inParts_c _ _ _ L _ ho.rd hs.out hn0 hn).mono ?_
  rintro e w' ⟨rfl, rfl⟩
  go_wp2_with fail
  refine (IsSorted_c lo g n c L _ ho hp'.out hn0 hn).mono ?_
  rintro e w1 ⟨rfl, hb1⟩
  go_wp2
  go_ret
  exact ⟨rfl, hb1⟩

set_option maxHeartbeats 2000000 in
theorem PartSum_c (lo g n c k : Nat) (L : List Int) (w : World) (ho : Own w lo (some ⟨g, 0, none⟩) n L) (hp : PV L) (hn0 : 0 < n) (hn : n ≤ 6) (hnc : n ≤ c) (hk : k ≤ 6) :
    Calls Tryz.prog 174 #[.slice (some ⟨g, 0, none⟩) n c, .int .i64 k] w fun e w' => e = .returned (.int .i64 (L.take k).sum) ∧ Below w.heap.size w w' := by
  have hp' := Lib.hid hp; clear hp
  have hxl := Lib.hid ho.1
  go_enter Tryz.func174, Tryz.ntmps174
  go_wp2_with fail
  refine (PartValid_c lo g n c L _ ho hp'.out hn0 hn).mono ?_
  rintro e w1 ⟨rfl, hb1⟩
  have hR := (ho.next hb1).rd
  have hc0 : ¬ c = 0 := by omega
  by_cases hkn : k ≤ n
  · have h1 : (k : Int) ≤ (n : Int) := by omega
    have h2 : (0 : Int) ≤ (k : Int) := by omega
    have h3 : (k : Int) ≤ (c : Int) := by omega
    go_wp2_with fail
    all_goals
      (refine (total_c _ _ _ 6 _ _ (hR.take hkn) (by omega) (by omega) (by omega) (fun x hx => hp'.out.bd x (List.mem_of_mem_take hx))).mono ?_
       rintro e w2 ⟨rfl, rfl⟩
       go_wp2
       go_ret
       exact ⟨rfl, hb1⟩)
  · have h1 : (n : Int) < (k : Int) := by omega
    have h2 : (0 : Int) ≤ (n : Int) := by omega
    have h3 : (n : Int) ≤ (c : Int) := by omega
    have hF := Lib.hid (show L.take k = L by rw [List.take_of_length_le (by rw [hxl.out]; omega)])
    go_wp2_with fail
    all_goals
      (refine (total_c _ _ _ 6 L _ hR (by omega) (by omega) (by omega) (fun x hx => hp'.out.bd x hx)).mono ?_
       rintro e w2 ⟨rfl, rfl⟩
       go_wp2
       go_ret
       exact ⟨by rw [hF.out]; rfl, hb1⟩)

theorem pB_ne {a b : List Int} (h : a.sum ≠ b.sum) : pB a b = false := by simp [pB, h]
theorem pB_no {a b : List Int} {k : Nat} (hk : k < 6) (h : (b.take k).sum < (a.take k).sum) : pB a b = false := by
  cases e : pB a b with
  | false => rfl
  | true =>
    simp only [pB, Bool.and_eq_true, List.all_eq_true, List.mem_range, decide_eq_true_eq] at e
    have := e.2 k hk
    omega
theorem pB_yes {a b : List Int} (h : a.sum = b.sum) (h2 : ∀ k, k < 6 → (a.take k).sum ≤ (b.take k).sum) : pB a b = true := by
  simp only [pB, Bool.and_eq_true, List.all_eq_true, List.mem_range, decide_eq_true_eq]
  exact ⟨h, h2⟩

set_option maxHeartbeats 4000000 in
theorem PartBelow_c (lo g n c lo' g' m d : Nat) (L M : List Int) (w : World) (ho : Own w lo (some ⟨g, 0, none⟩) n L) (hq : Own w lo' (some ⟨g', 0, none⟩) m M) (hp : PV L) (hp2 : PV M) (hn0 : 0 < n) (hn : n ≤ 6) (hnc : n ≤ c) (hm0 : 0 < m) (hm : m ≤ 6) (hmd : m ≤ d) :
    Calls Tryz.prog 133 #[.slice (some ⟨g, 0, none⟩) n c, .slice (some ⟨g', 0, none⟩) m d] w fun e w' => e = .returned (.bool (pB L M)) ∧ Below w.heap.size w w' := by
  have hpL := Lib.hid hp; clear hp
  have hpM := Lib.hid hp2; clear hp2
  go_enter Tryz.func133, Tryz.ntmps133
  go_wp2_with fail
  refine (PartValid_c lo g n c L _ ho hpL.out hn0 hn).mono ?_
  rintro e w1 ⟨rfl, hb1⟩
  go_wp2_with fail
  refine (PartValid_c lo' g' m d M _ (hq.next hb1) hpM.out hm0 hm).mono ?_
  rintro e w2 ⟨rfl, hb2⟩
  have ho2 := ho.next (lo_trans hb1 hb2)
  have hq2 := hq.next (lo_trans hb1 hb2)
  have hL2 := lo_trans hb1 hb2
  clear hb1 hb2 ho hq
  go_wp2_with fail
  refine (total_c _ _ _ 6 L _ ho2.rd (by omega) (by omega) (by omega) (fun x hx => hpL.out.bd x hx)).mono ?_
  rintro e w' ⟨rfl, rfl⟩
  go_wp2_with fail
  refine (total_c _ _ _ 6 M _ hq2.rd (by omega) (by omega) (by omega) (fun x hx => hpM.out.bd x hx)).mono ?_
  rintro e w' ⟨rfl, rfl⟩
  by_cases hs : L.sum = M.sum
  case neg =>
    have hT := Lib.hid (pB_ne hs)
    generalize L.sum = s1 at hs ⊢
    generalize M.sum = s2 at hs ⊢
    go_wp2
    go_ret
    exact ⟨ret_bool (by rw [hT.out]), hL2⟩
  have hs' := Lib.hid hs
  rw [hs]
  clear hs
  generalize M.sum = s2
  go_wp2
  go_loopw [21] (fun i wr => ∃ k : Nat, k ≤ 6 ∧ i = .int .i64 k ∧ Below w.heap.size w wr ∧ Own wr lo (some ⟨g, 0, none⟩) n L ∧ Own wr lo' (some ⟨g', 0, none⟩) m M ∧ Hid (∀ s, s < k → (L.take s).sum ≤ (M.take s).sum)) (fun i _ => 6 - (intOf i).toNat)
  case atStart => exact ⟨0, Nat.zero_le _, rfl, hL2, ho2, hq2, Lib.hid (fun s h => absurd h (by omega))⟩
  case round =>
    clear hL2 ho2 hq2
    obtain ⟨k, hk, rfl, hL, ho, hq, hall⟩ := hrel
    by_cases hlt : k < 6
    · go_wp2_with fail
      refine (PartSum_c lo g n c k L _ ho hpL.out hn0 hn hnc (by omega)).mono ?_
      rintro e w3 ⟨rfl, hb3⟩
      go_wp2_with fail
      refine (PartSum_c lo' g' m d k M _ (hq.next hb3) hpM.out hm0 hm hmd (by omega)).mono ?_
      rintro e w4 ⟨rfl, hb4⟩
      have hb5 := lo_trans hb3 hb4
      have ho5 := ho.next hb5
      have hq5 := hq.next hb5
      have hL5 := lo_trans hL hb5
      clear ho hq hL hb3 hb4 hb5
      by_cases hc : (M.take k).sum < (L.take k).sum
      · have hT := Lib.hid (pB_no hlt hc)
        generalize (M.take k).sum = s3 at hc ⊢
        generalize (L.take k).sum = s4 at hc ⊢
        go_wp2
        go_ret
        exact ⟨ret_bool (by rw [hT.out]), hL5⟩
      · have hN : Hid (∀ s, s < k + 1 → (L.take s).sum ≤ (M.take s).sum) := Lib.hid (fun s hs => by
          rcases Nat.lt_or_ge s k with h | h
          · exact hall.out s h
          · obtain rfl : s = k := by omega
            omega)
        generalize (M.take k).sum = s3 at hc ⊢
        generalize (L.take k).sum = s4 at hc ⊢
        go_wp2
        refine ⟨⟨k + 1, by omega, by go_num, hL5, ho5, hq5, hN⟩, ?_⟩
        simp [intOf]; omega
    · obtain rfl : k = 6 := by omega
      have hT := Lib.hid (pB_yes hs'.out hall.out)
      go_wp2
      go_ret
      exact ⟨ret_bool (by rw [hT.out]), hL⟩

set_option maxHeartbeats 4000000 in
theorem conjugate_c (A : Option Addr) (n c m : Nat) (xs : List Int) (w : World) (hr : Rd w A n xs) (hn : n ≤ 6) (hm : m ≤ 6) (hx : ∀ x ∈ xs, 0 ≤ x ∧ x ≤ m) :
    Calls Tryz.prog 135 #[.slice A n c, .int .i64 m] w fun e w' => e = .returned (.slice (some ⟨w.heap.size, 0, none⟩) m m) ∧ Below w.heap.size w w' ∧ Own w' w.heap.size (some ⟨w.heap.size, 0, none⟩) m (conj xs m) := by
  have hmk := make_row m (by omega)
  have hx' := Lib.hid hx; clear hx
  have hxl := Lib.hid hr.1
  go_enter Tryz.func135, Tryz.ntmps135
  go_wp2
  have hb0 : Blk (w.alloc (.cells (madeCells #[Value.int IntKind.i64 0] m) 3)) w.heap.size 3 (ints (List.replicate m 0)) := by rw [← made_ints]; exact Blk.new _ _ _
  have hO0 : Own (w.alloc (.cells (madeCells #[Value.int IntKind.i64 0] m) 3)) w.heap.size (some ⟨w.heap.size, 0, none⟩) m (conj (xs.take 0) m) := Own.of_blk (by rw [List.take_zero, conj_nil]; exact hb0) (Nat.le_refl _) (conj_len _ _)
  have hL0 : Below w.heap.size w (w.alloc (.cells (madeCells #[Value.int IntKind.i64 0] m) 3)) := lo_alloc (Below.refl _ _) _
  clear hb0
  go_loopw [13] (fun i wr => ∃ k : Nat, k ≤ n ∧ i = .int .i64 k ∧ Below w.heap.size w wr ∧ Own wr w.heap.size (some ⟨w.heap.size, 0, none⟩) m (conj (xs.take k) m)) (fun i _ => n - (intOf i).toNat)
  case atStart => exact ⟨0, Nat.zero_le _, rfl, hL0, hO0⟩
  case round =>
    clear hL0 hO0 hmk
    obtain ⟨k, hk, rfl, hL, hO⟩ := hrel
    by_cases hlt : k < n
    · obtain ⟨b, off, rfl, hb, hc⟩ := (hr.next hL).at_ hlt
      have hkl : k < xs.length := hxl.out ▸ hlt
      have hxb := hx'.out _ (mem_at hkl)
      have hN : Hid (bmp (xs.take k) m (xs[k]?.getD 0) = conj (xs.take (k + 1)) m) := Lib.hid (by
        rw [bmp_snoc, List.take_succ_eq_append_getElem hkl]
        simp [List.getElem?_eq_getElem hkl])
      obtain ⟨x, hxe⟩ : ∃ x : Nat, xs[k]?.getD 0 = (x : Int) := ⟨_, (Int.toNat_of_nonneg hxb.1).symm⟩
      rw [hxe] at hc hxb hN
      have hxe' := Lib.hid hxe; clear hxe
      have hxm : x ≤ m := by omega
      have hO0 : Own wr w.heap.size (some ⟨w.heap.size, 0, none⟩) m (bmp (xs.take k) m ((0 : Nat) : Int)) := by rw [show ((0 : Nat) : Int) = 0 from rfl, bmp_zero]; exact hO
      clear hO hxb
      obtain ⟨wo, rfl⟩ : ∃ wo : World, wo = wr := ⟨_, rfl⟩
      go_wp2
      go_loopw [18] (fun i wr => ∃ j : Nat, j ≤ x ∧ i = .int .i64 j ∧ Below w.heap.size w wr ∧ Own wr w.heap.size (some ⟨w.heap.size, 0, none⟩) m (bmp (xs.take k) m (j : Nat))) (fun i _ => x - (intOf i).toNat)
      case atStart => exact ⟨0, Nat.zero_le _, rfl, hL, hO0⟩
      case round =>
        clear hL hO0 hb hc
        obtain ⟨j, hj, rfl, hL, hO⟩ := hrel
        by_cases hlt2 : j < x
        · have hst := Lib.hid (bmp_step (xs.take k) m j (by omega))
          have hcb := cnt_bd (xs.take k) j
          have htl : (xs.take k).length ≤ 6 := by rw [List.length_take, hxl.out]; omega
          have hat := bmp_at (r := xs.take k) (t := (j : Nat)) (show j < m by omega)
          rw [if_neg (by omega)] at hat
          obtain ⟨g', eg, _, hz, cc, ff, ss⟩ := hO.at_ (k := j) (by omega)
          cases eg
          have hs2 := ss ((bmp (xs.take k) m (j : Nat))[j]?.getD 0 + 1)
          rw [hst.out] at hs2
          rw [hat] at cc hs2
          have hcb' : 0 ≤ cnt (xs.take k) j + 0 ∧ cnt (xs.take k) j + 0 ≤ 6 := by omega
          generalize cnt (xs.take k) j + 0 = v at cc hs2 hcb'
          have hL2 := lo_set hL (p := ⟨w.heap.size, j, none⟩) (Nat.le_refl _) (.int .i64 (v + 1))
          clear ss hat hcb htl hL hO
          go_wp2
          go_roundw
          case rel => exact ⟨j + 1, by omega, by go_num, hL2, hs2⟩
          case measure => simp [intOf]; omega
        · obtain rfl : j = x := by omega
          rw [hN.out] at hO
          go_wp2
          go_roundw
          case rel => exact ⟨k + 1, by omega, by go_num, hL, hO⟩
          case measure => simp [intOf]; omega
    · obtain rfl : k = n := by omega
      rw [List.take_of_length_le (Nat.le_of_eq hxl.out)] at hO
      go_wp2
      go_ret
      exact ⟨rfl, hL, hO⟩

set_option maxHeartbeats 2000000 in
theorem SumsConsistent_c (A B : Option Addr) (n m c d : Nat) (xs ys : List Int) (w : World) (hr : Rd w A n xs) (hq : Rd w B m ys) (hn : n ≤ 1048576) (hm : m ≤ 1048576) :
    Calls Tryz.prog 92 #[.slice A n c, .slice B m d] w fun e w' => e = .returned (.bool (consB xs ys)) ∧ Below w.heap.size w w' := by
  cases hv : sV xs ys with
  | false =>
    have hT := Lib.hid (show consB xs ys = false by simp [consB, hv])
    go_enter Tryz.func92, Tryz.ntmps92
    go_wp2_with (go_at_call 132; refine (SumsValid_c _ _ _ _ _ _ xs ys _ hr hq (by omega) (by omega)).mono ?_; rw [hv]; rintro e w' ⟨rfl, rfl⟩)
    go_ret
    exact ⟨ret_bool (by rw [hT.out]), Below.refl _ _⟩
  | true =>
    have hT := Lib.hid (consB_pB hv)
    obtain ⟨q1, q2, q3, q4, q5, q6⟩ := sV_out hv
    rw [hq.1] at hT q3 q4 q5
    rw [hr.1] at q1 q2 q6
    have hx5 := Lib.hid q5
    have hy6 := Lib.hid (show ∀ x ∈ ys, 0 ≤ x ∧ x ≤ 6 from fun x hx => by have := q6 x hx; omega)
    have hpc := Lib.hid (pv_conj (r := xs) (n := m) (by rw [hr.1]; exact q2) q4)
    have hpd := Lib.hid (pv_dsort (c := ys) (by rw [hq.1]; exact q4) hy6.out)
    clear q5 q6
    go_enter Tryz.func92, Tryz.ntmps92
    go_wp2_with fail
    refine (SumsValid_c _ _ _ _ _ _ xs ys _ hr hq (by omega) (by omega)).mono ?_
    rw [hv]
    rintro e w' ⟨rfl, rfl⟩
    clear hv
    go_wp2_with fail
    refine (sorted_c B m d ys _ hq (by omega) (by omega) (fun x hx => by have := hy6.out x hx; omega)).mono ?_
    rintro e w1 ⟨g, c', rfl, hb1, ho1, hc1, hc2⟩
    go_wp2_with fail
    refine (conjugate_c _ _ _ m xs _ (hr.next hb1) q2 q4 hx5.out).mono ?_
    rintro e w2 ⟨rfl, hb2, ho2⟩
    go_wp2_with fail
    refine (PartBelow_c _ g m c' _ _ m m (dsort ys) (conj xs m) _ (ho1.next hb2) ho2 hpd.out hpc.out (by omega) q4 hc1 (by omega) q4 (Nat.le_refl _)).mono ?_
    rw [hT.out]
    rintro e w3 ⟨rfl, hb3⟩
    go_wp2
    go_ret
    exact ⟨rfl, by (repeat (first | exact Below.refl _ _ | assumption | refine lo_alloc ?_ _ | refine lo_set ?_ (by simp; try omega) _ | refine Below.drew ?_ | refine below_drewN ?_ _ | refine lo_trans ?_ (by assumption) | refine lo_wr ?_ (by assumption) (by omega)))⟩
end Go.Proofs.YteabnljjogiflaaGreatDoor
