
/- Walks: the places of a list by descending value, the reference's way. -/
import Derived.Test.YtbhpiefpmagkbaaOd
import Derived.Test.YtbhpiefpmagkbaaKd
namespace Go.Proofs.Ytbhpiefpmagkbaa
open Go.RowKit Go.Shelf
set_option maxRecDepth 100000

set_option maxHeartbeats 4000000 in
theorem l14Order_c (A : Option Addr) (n c : Nat) (L : List Int) (w : World) (hr : Rd w A n L) (hn : n ≤ 6) (hL : ∀ x ∈ L, 0 ≤ x ∧ x ≤ 6) :
    Calls Try.prog 30 #[.slice A n c] w fun e w' => ∃ R d, e = .returned (.slice R n d) ∧ Below w.heap.size w w' ∧ Own w' w.heap.size R n (ordL L) := by
  have hxl := Lib.hid hr.1
  have hE := Lib.hid (show ordT L 7 = ordL L by rw [ordT_seven, ord_same (by simpa using hL)])
  have hEl := Lib.hid (show (ordL L).length = n by rw [(ordL_perm L).length_eq, iotaL_len, hr.1])
  clear hL
  have hB0 : Buf (w.alloc (.cells #[] 3)) w.heap.size (some ⟨w.heap.size, 0, none⟩) 0 (ordT L 0) := Buf.lit w w.heap.size [] (Nat.le_refl _) (Nat.zero_le _)
  have hL0 : Below w.heap.size w (w.alloc (.cells #[] 3)) := lo_alloc (Below.refl _ _) _
  go_enter Try.func30, Try.ntmps30
  go_wp2
  go_loopw [3, 4] (fun v x wr => ∃ (k : Nat) (z : Int) (R : Option Addr) (q d : Nat), k ≤ 7 ∧ Hid (z = 6 - (k : Int)) ∧ -1 ≤ z ∧ z ≤ 6 ∧ x = .int .i64 z ∧ v = .slice R q d ∧ Hid (q = (ordT L k).length) ∧ Buf wr w.heap.size R d (ordT L k) ∧ Below w.heap.size w wr) (fun _ x _ => (intOf x + 1).toNat)
  case atStart => exact ⟨0, 6, _, 0, 0, by omega, Lib.hid (by simp), by omega, by omega, rfl, rfl, Lib.hid rfl, hB0, hL0⟩
  case round =>
    clear hB0 hL0
    obtain ⟨k, z, R, q, d, hk, hz, hz1, hz2, rfl, rfl, hq, hB, hLw⟩ := hrel
    by_cases hlt : 0 ≤ z
    · have hk7 : k < 7 := by have := hz.out; omega
      rw [← ordI_zero] at hB hq
      obtain ⟨wo, rfl⟩ : ∃ wo : World, wo = wr := ⟨_, rfl⟩
      go_wp2
      go_loopw [3, 5] (fun v i wr => ∃ (i' : Nat) (R : Option Addr) (q d : Nat), i' ≤ n ∧ i = .int .i64 i' ∧ v = .slice R q d ∧ Hid (q = (ordI L k i').length) ∧ Buf wr w.heap.size R d (ordI L k i') ∧ Below w.heap.size w wr) (fun _ i _ => n - (intOf i).toNat)
      case atStart => exact ⟨0, _, _, _, Nat.zero_le _, rfl, rfl, hq, hB, hLw⟩
      case round =>
        clear hq hB hLw
        obtain ⟨i, R, q, d, hi, rfl, rfl, hq, hB, hLw⟩ := hrel
        by_cases hlt2 : i < n
        · obtain ⟨b, off, rfl, hb, hc⟩ := (hr.next hLw).at_ hlt2
          have hil : i < L.length := by rw [hxl.out]; exact hlt2
          have hql : q ≤ 1000 := by
            have h1 := ordI_len L k i
            rw [hxl.out, ← hq.out] at h1
            have : (k + 1) * n ≤ 7 * 6 := Nat.mul_le_mul (by omega) hn
            omega
          by_cases hx : L[i]?.getD 0 = z
          · have hH := Lib.hid (ordI_hit (k := k) hil (by rw [hx]; exact hz.out))
            rw [hx] at hc
            have hx' := Lib.hid hx; clear hx
            have hB3 : Buf (wr.alloc (.cells #[.int .i64 (i : Int)] 3)) w.heap.size R d (ordI L k i) := hB.next (by (repeat (first | exact Below.refl _ _ | assumption | refine lo_alloc ?_ _ | refine lo_set ?_ (by simp; try omega) _ | refine Below.drew ?_ | refine below_drewN ?_ _ | refine lo_trans ?_ (by assumption) | refine lo_wr ?_ (by assumption) (by omega))))
            have hL3 : Below w.heap.size w (wr.alloc (.cells #[.int .i64 (i : Int)] 3)) := lo_alloc hLw _
            have hrd : Rd (wr.alloc (.cells (ints [(i : Int)]) 3)) (some ⟨wr.heap.size, 0, none⟩) 1 [(i : Int)] := Rd.of_blk (Blk.new _ _ _)
            have hsz := hLw.size
            have hbz : (z == z) = true := by simp
            clear hB hLw
            go_wp2_with (at_builtin; refine (wpl_append rfl _ _ rfl w.heap.size R d q (ordI L k i) rfl hq.out hB3 _ 1 1 [(i : Int)] rfl hrd (by omega) (by omega) (by simp; omega) ?_); intro g c' w4 hB4 hg4 hat)
            have hBk := rowA_ge hB3
            rw [← hH.out] at hB4
            go_roundw
            case rel => exact ⟨i + 1, _, q + 1, c', by omega, by go_num, rfl, Lib.hid (by rw [hH.out, List.length_append, hq.out]; rfl), hB4, hL3.grown hg4 hL3.size (fun g hg => hBk g hg)⟩
            case measure => simp [intOf]; omega
          · have hM := Lib.hid (ordI_miss (k := k) hil (by rw [← hz.out]; exact hx))
            generalize L[i]?.getD 0 = y at hc hx
            have hyz : (y == z) = false := by simpa using hx
            rw [← hM.out] at hB hq
            go_wp2
            go_roundw
            case rel => exact ⟨i + 1, _, _, _, by omega, by go_num, rfl, hq, hB, hLw⟩
            case measure => simp [intOf]; omega
        · obtain rfl : i = n := by omega
          have hEn := Lib.hid (ordI_end L k)
          rw [← hxl.out] at hB hq
          rw [hEn.out] at hB hq
          go_wp2
          go_roundw
          case rel => exact ⟨k + 1, z - 1, _, _, _, by omega, Lib.hid (by have := hz.out; omega), by omega, by omega, by go_num, rfl, hq, hB, hLw⟩
          case measure => simp [intOf]; omega
    · have hk7 : k = 7 := by have := hz.out; omega
      subst hk7
      rw [hE.out] at hB hq
      have hqn : q = n := by rw [hq.out, hEl.out]
      subst hqn
      have hO := hB.own
      rw [hEl.out] at hO
      go_wp2
      go_ret
      exact ⟨_, ⟨_, rfl⟩, hLw, hO⟩
end Go.Proofs.Ytbhpiefpmagkbaa
