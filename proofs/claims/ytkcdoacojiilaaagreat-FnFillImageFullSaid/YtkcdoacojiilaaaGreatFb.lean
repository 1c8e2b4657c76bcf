
/- Walks: an image fills sums (noneAbove, FillFits: where it does). -/
import Derived.Test.YtkcdoacojiilaaaGreatMathFm
import Derived.Test.YtkcdoacojiilaaaGreatSu
import Derived.Test.YtkcdoacojiilaaaGreatKo
namespace Go.Proofs.YtkcdoacojiilaaaGreat
open Go.RowKit
set_option maxRecDepth 100000

set_option maxHeartbeats 1000000 in
theorem noneAbove_t (A B : Option Addr) (n m c d : Nat) (xs ys : List Int) (w : World) (hr : Rd w A n xs) (hs : Rd w B m ys) (hnm : n ≤ m) (hm : m ≤ 1000) (hall : ∀ i, i < n → xs[i]?.getD 0 ≤ ys[i]?.getD 0) :
    Calls Tryz.prog 27 #[.slice A n c, .slice B m d] w fun e w' => e = .returned (.bool true) ∧ w = w' := by
  have hall' := Lib.hid hall
  clear hall
  go_enter Tryz.func27, Tryz.ntmps27
  go_wp2
  go_loop [9] (fun i => ∃ k : Nat, k ≤ n ∧ i = .int .i64 k) (fun i => n - (intOf i).toNat)
  case atStart => exact ⟨0, Nat.zero_le _, rfl⟩
  case round =>
    obtain ⟨k, hk, rfl⟩ := hrel
    by_cases hlt : k < n
    · obtain ⟨b, off, rfl, hb, hc⟩ := hr.at_ hlt
      obtain ⟨b2, off2, rfl, hb2, hc2⟩ := hs.at_ (k := k) (by omega)
      have h1 := hall'.out k hlt
      have h2 : k < m := by omega
      generalize xs[k]?.getD 0 = x at hc h1
      generalize ys[k]?.getD 0 = y at hc2 h1
      go_wp2
      go_round
      case rel => exact ⟨k + 1, by omega, by go_num⟩
      case measure => simp [intOf]; omega
    · obtain rfl : k = n := by omega
      go_wp2
      go_ret
      exact ⟨rfl, rfl⟩

theorem rsum_get (xs : List Int) {i : Nat} (hi : i < xs.length) : (rsum xs)[i]?.getD 0 = ((popI xs i : Nat) : Int) := by
  rw [rsum, List.getElem?_map, List.getElem?_eq_getElem hi]
  simp [popI, List.getElem?_eq_getElem hi]
theorem csum_get (m : Nat) (xs : List Int) {j : Nat} (hj : j < m) : (csum m xs)[j]?.getD 0 = ((ccnt xs j : Nat) : Int) := by
  rw [csum, List.getElem?_map, List.getElem?_range hj]
  rfl

set_option maxHeartbeats 2000000 in
theorem FillFits_t (A B C : Option Addr) (n m c d l : Nat) (rs ys xs : List Int) (w : World) (hr : Rd w A n rs) (hs : Rd w B m ys) (hq : Rd w C n xs) (hv : sV rs ys = true) (hf : FitX n m rs ys xs) :
    Calls Tryz.prog 9 #[.agg #[.int .i64 (m : Int), .slice C n l], .slice A n c, .slice B m d] w fun e w' => e = .returned (.bool true) ∧ Below w.heap.size w w' := by
  have hb := sV_out hv
  rw [hr.1, hs.1] at hb
  obtain ⟨b1, b2, b3, b4, b5, b6⟩ := hb
  have hok := hf.ok
  have hrow : Hid (∀ i, i < n → (rSums (m : Int) xs)[i]?.getD 0 ≤ rs[i]?.getD 0) := Lib.hid (fun i hi => by rw [rSums, if_pos hok, rsum_get xs (by rw [hf.len]; exact hi)]; exact hf.row i hi)
  have hcol : Hid (∀ j, j < m → (cSums (m : Int) xs)[j]?.getD 0 ≤ ys[j]?.getD 0) := Lib.hid (fun j hj => by rw [cSums, if_pos hok, Int.toNat_natCast, csum_get m xs hj]; exact hf.col j hj)
  have hl1 : Hid ((rSums (m : Int) xs).length = n) := Lib.hid (by rw [rSums, if_pos hok, rsum_len, hf.len])
  have hl2 : Hid ((cSums (m : Int) xs).length = m) := Lib.hid (by rw [cSums, if_pos hok, Int.toNat_natCast, csum_len])
  clear b5 b6 hf
  have hP := Blk.new w 27 #[.int .i64 (m : Int), .slice C n l]
  have hB0 := lo_alloc (Below.refl w.heap.size w) (.cells #[.int .i64 (m : Int), .slice C n l] 27)
  go_enter Tryz.func9, Tryz.ntmps9
  go_wp2_with fail
  refine (SumsValid_c _ _ _ _ _ _ rs ys _ (hr.alloc _) (hs.alloc _) (by omega) (by omega)).mono ?_
  rw [hv]
  rintro e w' ⟨rfl, rfl⟩
  have c0 := hP.cell 0
  have c1 := hP.cell 1
  go_wp2_with fail
  refine (impl_ImageValid_c _ _ _ _ xs _ (hq.alloc _) (by omega)).mono ?_
  rw [hok]
  rintro e w1 ⟨rfl, hb1⟩
  have hv' := Lib.hid hv
  have hok' := Lib.hid hok
  clear c0 c1 hv hok
  have hP1 := hP.next hb1
  have c0 := hP1.cell 0
  have c1 := hP1.cell 1
  have hB1 : Below w.heap.size w w1 := by (repeat (first | exact Below.refl _ _ | assumption | refine lo_alloc ?_ _ | refine lo_set ?_ (by simp; try omega) _ | refine Below.drew ?_ | refine below_drewN ?_ _ | refine lo_trans ?_ (by assumption) | refine lo_wr ?_ (by assumption) (by omega)))
  go_wp2_with fail
  refine (RowSums_c _ _ _ _ xs _ (hq.next (by (repeat (first | exact Below.refl _ _ | assumption | refine lo_alloc ?_ _ | refine lo_set ?_ (by simp; try omega) _ | refine Below.drew ?_ | refine below_drewN ?_ _ | refine lo_trans ?_ (by assumption) | refine lo_wr ?_ (by assumption) (by omega))))) (by omega)).mono ?_
  rintro e w2 ⟨R, r, k, rfl, hb2, hO2⟩
  obtain rfl : r = n := by rw [← hO2.1, hl1.out]
  clear c0 c1
  have hP2 := hP1.next hb2
  have c0 := hP2.cell 0
  have c1 := hP2.cell 1
  have hB2 : Below w.heap.size w w2 := by (repeat (first | exact Below.refl _ _ | assumption | refine lo_alloc ?_ _ | refine lo_set ?_ (by simp; try omega) _ | refine Below.drew ?_ | refine below_drewN ?_ _ | refine lo_trans ?_ (by assumption) | refine lo_wr ?_ (by assumption) (by omega)))
  go_wp2_with fail
  refine (noneAbove_t _ _ r r _ _ _ _ _ hO2.rd (hr.next (by (repeat (first | exact Below.refl _ _ | assumption | refine lo_alloc ?_ _ | refine lo_set ?_ (by simp; try omega) _ | refine Below.drew ?_ | refine below_drewN ?_ _ | refine lo_trans ?_ (by assumption) | refine lo_wr ?_ (by assumption) (by omega))))) (Nat.le_refl _) (by omega) hrow.out).mono ?_
  rintro e w3 ⟨rfl, rfl⟩
  go_wp2_with fail
  refine (ColSums_c _ _ _ _ xs _ (hq.next (by (repeat (first | exact Below.refl _ _ | assumption | refine lo_alloc ?_ _ | refine lo_set ?_ (by simp; try omega) _ | refine Below.drew ?_ | refine below_drewN ?_ _ | refine lo_trans ?_ (by assumption) | refine lo_wr ?_ (by assumption) (by omega))))) (by omega)).mono ?_
  rintro e w4 ⟨R4, r4, k4, rfl, hb4, hO4⟩
  obtain rfl : r4 = m := by rw [← hO4.1, hl2.out]
  have hB4 : Below w.heap.size w w4 := by (repeat (first | exact Below.refl _ _ | assumption | refine lo_alloc ?_ _ | refine lo_set ?_ (by simp; try omega) _ | refine Below.drew ?_ | refine below_drewN ?_ _ | refine lo_trans ?_ (by assumption) | refine lo_wr ?_ (by assumption) (by omega)))
  go_wp2_with fail
  refine (noneAbove_t _ _ r4 r4 _ _ _ _ _ hO4.rd (hs.next (by (repeat (first | exact Below.refl _ _ | assumption | refine lo_alloc ?_ _ | refine lo_set ?_ (by simp; try omega) _ | refine Below.drew ?_ | refine below_drewN ?_ _ | refine lo_trans ?_ (by assumption) | refine lo_wr ?_ (by assumption) (by omega))))) (Nat.le_refl _) (by omega) hcol.out).mono ?_
  rintro e w5 ⟨rfl, rfl⟩
  go_wp2
  go_ret
  exact ⟨rfl, by (repeat (first | exact Below.refl _ _ | assumption | refine lo_alloc ?_ _ | refine lo_set ?_ (by simp; try omega) _ | refine Below.drew ?_ | refine below_drewN ?_ _ | refine lo_trans ?_ (by assumption) | refine lo_wr ?_ (by assumption) (by omega)))⟩
end Go.Proofs.YtkcdoacojiilaaaGreat
