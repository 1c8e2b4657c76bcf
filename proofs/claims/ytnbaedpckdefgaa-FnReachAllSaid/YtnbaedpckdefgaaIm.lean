
/- Walks: the iterator over all images with given sums (it writes its own image and its own list). -/
import Derived.Test.YtnbaedpckdefgaaMathIm
import Derived.Test.YtnbaedpckdefgaaRgC
import Derived.Test.YtnbaedpckdefgaaSv
import Derived.Test.YtnbaedpckdefgaaSu
import Derived.Test.YtnbaedpckdefgaaKc
import Derived.Test.YtnbaedpckdefgaaCn
import Derived.BigQuiet
namespace Go.Proofs.Ytnbaedpckdefgaa
open Go.RowKit Go.Shelf
attribute [local go_sem] Oper.semAt_some
set_option maxRecDepth 100000

set_option maxHeartbeats 4000000 in
theorem fits_c (A : Option Addr) (n c r : Nat) (k : Int) (lf : List Int) (w : World) (hr : Rd w A n lf) (hn : n ≤ 6) (hr64 : r < 64) :
    Calls Try.prog 48 #[.int .i64 r, .slice A n c, .int .i64 k] w fun e w' => e = .returned (.bool (fitB r lf k)) ∧ w = w' := by
  have hxl := Lib.hid hr.1
  go_enter Try.func48, Try.ntmps48
  go_wp2
  go_loop [12] (fun i => ∃ j : Nat, j ≤ n ∧ i = .int .i64 j ∧ Hid (∀ t, t < j → (r.testBit t = true → lf[t]?.getD 0 ≠ 0) ∧ (r.testBit t = false → lf[t]?.getD 0 ≠ k))) (fun i => n - (intOf i).toNat)
  case atStart => exact ⟨0, Nat.zero_le _, rfl, Lib.hid (fun t h => absurd h (by omega))⟩
  case round =>
    obtain ⟨j, hj, rfl, hall⟩ := hrel
    by_cases hlt : j < n
    · obtain ⟨b, off, rfl, hb, hc⟩ := hr.at_ hlt
      have hp := pow_int (j := j) (by omega)
      have hA := and_bit r j (by omega)
      cases hbit : r.testBit j with
      | true =>
        rw [hbit, if_pos rfl] at hA
        by_cases h0 : lf[j]?.getD 0 = 0
        · have hF := Lib.hid (show fitB r lf k = false by
            rw [← Bool.not_eq_true]
            intro h
            exact (fitB_iff.1 h j (by rw [hxl.out]; exact hlt)).1 hbit h0)
          rw [h0] at hc
          clear hbit h0
          go_wp2
          go_ret
          exact ⟨ret_bool hF.out.symm, rfl⟩
        · have hN : Hid (∀ t, t < j + 1 → (r.testBit t = true → lf[t]?.getD 0 ≠ 0) ∧ (r.testBit t = false → lf[t]?.getD 0 ≠ k)) := Lib.hid (fun t ht => by
            rcases Nat.lt_or_ge t j with h | h
            · exact hall.out t h
            · obtain rfl : t = j := by omega
              exact ⟨fun _ => h0, fun h => by rw [hbit] at h; cases h⟩)
          generalize lf[j]?.getD 0 = v at hc h0
          have hz : (v == 0) = false := beq_eq_false_iff_ne.2 h0
          clear hbit h0
          go_wp2
          go_round
          case rel => exact ⟨j + 1, by omega, by go_num, hN⟩
          case measure => simp [intOf]; omega
      | false =>
        rw [hbit, if_neg (by simp)] at hA
        by_cases h0 : lf[j]?.getD 0 = k
        · have hF := Lib.hid (show fitB r lf k = false by
            rw [← Bool.not_eq_true]
            intro h
            exact (fitB_iff.1 h j (by rw [hxl.out]; exact hlt)).2 hbit h0)
          rw [h0] at hc
          have hz : (k == k) = true := by simp
          clear hbit h0
          go_wp2
          go_ret
          exact ⟨ret_bool hF.out.symm, rfl⟩
        · have hN : Hid (∀ t, t < j + 1 → (r.testBit t = true → lf[t]?.getD 0 ≠ 0) ∧ (r.testBit t = false → lf[t]?.getD 0 ≠ k)) := Lib.hid (fun t ht => by
            rcases Nat.lt_or_ge t j with h | h
            · exact hall.out t h
            · obtain rfl : t = j := by omega
              exact ⟨fun h => by rw [hbit] at h; (cases h), fun _ => h0⟩)
          generalize lf[j]?.getD 0 = v at hc h0
          have hz : (v == k) = false := beq_eq_false_iff_ne.2 h0
          clear hbit h0
          go_wp2
          go_round
          case rel => exact ⟨j + 1, by omega, by go_num, hN⟩
          case measure => simp [intOf]; omega
    · obtain rfl : j = n := by omega
      have hF := Lib.hid (show fitB r lf k = true from fitB_iff.2 (by rw [hxl.out]; exact hall.out))
      go_wp2
      go_ret
      exact ⟨ret_bool hF.out.symm, rfl⟩

/-- a row's cells taken, times a number -/
def takeT (t : Int) (row : Nat) (lf : List Int) : List Int := (List.range lf.length).map (fun j => lf[j]?.getD 0 - ((b1 (row.testBit j) : Nat) : Int) * t)
theorem takeT_len (t : Int) (row : Nat) (lf : List Int) : (takeT t row lf).length = lf.length := by simp [takeT]
theorem takeT_one (row : Nat) (lf : List Int) : takeT 1 row lf = takeL row lf := by simp [takeT, takeL]
theorem takeT_back (row : Nat) (lf : List Int) : takeT (-1) row lf = giveL row lf := by
  simp only [takeT, giveL]
  refine List.map_congr_left (fun j _ => ?_)
  omega
theorem takeT_at {t : Int} {row : Nat} {lf : List Int} {j : Nat} (h : j < lf.length) : (takeT t row lf)[j]? = some (lf[j]?.getD 0 - ((b1 (row.testBit j) : Nat) : Int) * t) := by
  simp [takeT, List.getElem?_map, List.getElem?_range h]
theorem mixed_get (ys xs : List Int) {j : Nat} (h : j ≤ ys.length) : (ys.take j ++ xs.drop j)[j]?.getD 0 = xs[j]?.getD 0 := by
  have e : (ys.take j).length = j := by rw [List.length_take]; omega
  rw [List.getElem?_append_right (by rw [e]; exact Nat.le_refl _), e, Nat.sub_self, List.getElem?_drop, Nat.add_zero]

theorem take_val {r j : Nat} {v t : Int} (ht : t = 1 ∨ t = -1) (hr : r < 64) (hv : -1000 ≤ v ∧ v ≤ 1000) : wrap64 (v - wrap64 (bits .and .i64 ((r : Int) / 2 ^ j) 1 * t)) = v - ((b1 (r.testBit j) : Nat) : Int) * t := by
  rw [and_bit r j (by omega)]
  have e : ((if r.testBit j = true then (1 : Int) else 0) * t) = ((b1 (r.testBit j) : Nat) : Int) * t := by cases r.testBit j <;> rfl
  have hb : -1 ≤ ((b1 (r.testBit j) : Nat) : Int) * t ∧ ((b1 (r.testBit j) : Nat) : Int) * t ≤ 1 := by
    cases r.testBit j <;> rcases ht with rfl | rfl <;> simp [b1]
  rw [e]
  generalize ((b1 (r.testBit j) : Nat) : Int) * t = z at hb ⊢
  rw [IntWalk.wrap64_in z (by omega), IntWalk.wrap64_in _ (by omega)]

set_option maxHeartbeats 4000000 in
theorem take_c (lo g n c r : Nat) (t : Int) (lf : List Int) (w : World) (ho : Own w lo (some ⟨g, 0, none⟩) n lf) (hn : n ≤ 6) (hr64 : r < 64) (ht : t = 1 ∨ t = -1) (hl : ∀ x ∈ lf, -1000 ≤ x ∧ x ≤ 1000) :
    Calls Try.prog 49 #[.slice (some ⟨g, 0, none⟩) n c, .int .i64 r, .int .i64 t] w fun e w' => e = .returned (.tuple #[]) ∧ w.grownBy w' (some g) ∧ Own w' lo (some ⟨g, 0, none⟩) n (takeT t r lf) := by
  have hxl := Lib.hid ho.1
  have hl' := Lib.hid hl
  clear hl
  go_enter Try.func49, Try.ntmps49
  go_wp2
  go_loopw [9] (fun i wr => ∃ j : Nat, j ≤ n ∧ i = .int .i64 j ∧ w.grownBy wr (some g) ∧ Own wr lo (some ⟨g, 0, none⟩) n ((takeT t r lf).take j ++ lf.drop j)) (fun i _ => n - (intOf i).toNat)
  case atStart => exact ⟨0, Nat.zero_le _, rfl, World.grownBy.refl _ _, by simpa using ho⟩
  case round =>
    obtain ⟨j, hj, rfl, hg, hO⟩ := hrel
    by_cases hlt : j < n
    · obtain ⟨g', e', _, hz, cc, ff, ss⟩ := hO.at_ (k := j) hlt
      cases e'
      rw [mixed_get _ _ (by rw [takeT_len, hxl.out]; omega)] at cc
      have hp := pow_int (j := j) (by omega)
      have hset := Lib.hid (take_drop_set (takeT t r lf) lf j _ (by rw [hxl.out]; exact hlt) (takeT_at (t := t) (row := r) (by rw [hxl.out]; exact hlt)))
      have hvb := hl'.out _ (mem_at (xs := lf) (k := j) (by rw [hxl.out]; exact hlt))
      generalize lf[j]?.getD 0 = v at cc hset hvb
      have hV : Hid (wrap64 (v - wrap64 (bits .and .i64 ((r : Int) / 2 ^ j) 1 * t)) = v - ((b1 (r.testBit j) : Nat) : Int) * t) := Lib.hid (take_val ht (by omega) (by omega))
      have H := Lib.hid (ss (v - ((b1 (r.testBit j) : Nat) : Int) * t))
      rw [hset.out] at H
      clear ss hO hset
      go_wp2
      go_region
      rw [hV.out]
      go_wp2
      go_roundw
      case rel => exact ⟨j + 1, by omega, by go_num, grown_trans (grown_trans hg (grown_set _)) (grown_drew _), H.out.drew⟩
      case measure => simp [intOf]; omega
    · obtain rfl : j = n := by omega
      rw [List.take_of_length_le (by rw [takeT_len, hxl.out]; exact Nat.le_refl _), List.drop_of_length_le (by rw [hxl.out]; exact Nat.le_refl _), List.append_nil] at hO
      go_wp2
      go_end0
      exact ⟨rfl, hg, hO⟩
end Go.Proofs.Ytnbaedpckdefgaa
