/- The law FnExactWeightsImage walked. -/
import Derived.Test.YtlhhafgfpmgbcaaWd
import Derived.Test.YtlhhafgfpmgbcaaWe
namespace Go.Proofs.Ytlhhafgfpmgbcaa
open Go.RowKit

set_option maxHeartbeats 4000000 in
theorem law_ExactWeightsImage (A B : Option Addr) (n c m d : Nat) (p q : List Int) (w : World) (hp : Rd w A n p) (hq : Rd w B m q) :
    Calls Try.prog 3 #[.slice A n c, .slice B m d] w fun e w' => e = .returned (.bool true) ∧ Below w.heap.size w w' := by
  by_cases h1 : 1048576 < n
  · go_enter Try.func3, Try.ntmps3
    go_wp2
    go_ret
    exact ⟨rfl, Below.refl _ _⟩
  by_cases h2 : 1048576 < m
  · go_enter Try.func3, Try.ntmps3
    go_wp2
    go_ret
    exact ⟨rfl, Below.refl _ _⟩
  go_enter Try.func3, Try.ntmps3
  go_wp2_with fail
  refine (toIntS_c _ _ _ p _ hp (by omega)).mono ?_
  rintro e w1 ⟨rfl, hb1, ho1, hz1⟩
  go_wp2_with fail
  refine (toIntS_c _ _ _ q _ (hq.next hb1) (by omega)).mono ?_
  rintro e w2 ⟨rfl, hb2, ho2, hz2⟩
  go_wp2_with fail
  refine (spec_WeightsImage_c _ _ _ _ _ _ p q _ (ho1.next hb2).rd ho2.rd (by omega) (by omega)).mono ?_
  rintro e w3 ⟨R, r, k, rfl, hb3, ho3⟩
  have hr1 : r ≤ 6 := by rw [← ho3.1]; exact wX_len p q
  have hs3 := hb3.size
  have hkA := Blk.new w3 24 #[.int .i64 (wW p q), .slice R r k]
  have hbA := lo_alloc (Below.refl w3.heap.size w3) (.cells #[.int .i64 (wW p q), .slice R r k] 24)
  have hbAz : w3.heap.size < (w3.alloc (.cells #[.int .i64 (wW p q), .slice R r k] 24)).heap.size := by simp
  go_wp2_with fail
  generalize w3.alloc (.cells #[.int .i64 (wW p q), .slice R r k] 24) = wA at hkA hbA hbAz  ⊢
  refine (toIntS_c _ _ _ p _ (hp.next (by (repeat (first | exact Below.refl _ _ | assumption | refine lo_alloc ?_ _ | refine lo_set ?_ (by simp; try omega) _ | refine Below.drew ?_ | refine below_drewN ?_ _ | refine lo_trans ?_ (by assumption) | refine lo_wr ?_ (by assumption) (by omega))))) (by omega)).mono ?_
  rintro e w4 ⟨rfl, hb4, ho4, hz4⟩
  go_wp2_with fail
  refine (toIntS_c _ _ _ q _ (hq.next (by (repeat (first | exact Below.refl _ _ | assumption | refine lo_alloc ?_ _ | refine lo_set ?_ (by simp; try omega) _ | refine Below.drew ?_ | refine below_drewN ?_ _ | refine lo_trans ?_ (by assumption) | refine lo_wr ?_ (by assumption) (by omega))))) (by omega)).mono ?_
  rintro e w5 ⟨rfl, hb5, ho5, hz5⟩
  go_wp2_with fail
  refine (impl_WeightsImage_c _ _ _ _ _ _ p q _ (ho4.next hb5).rd ho5.rd (by omega) (by omega)).mono ?_
  rintro e w6 ⟨G, g, kk, rfl, hb6, ho6⟩
  have hg1 : g ≤ 6 := by rw [← ho6.1]; exact wX_len p q
  have hs6 := hb6.size
  have a' : Blk (w6.alloc (.cells #[.int .i64 (wW p q), .slice G g kk] 24)) _ _ _ := hkA.next (by (repeat (first | exact Below.refl _ _ | assumption | refine lo_alloc ?_ _ | refine lo_set ?_ (by simp; try omega) _ | refine Below.drew ?_ | refine below_drewN ?_ _ | refine lo_trans ?_ (by assumption) | refine lo_wr ?_ (by assumption) (by omega))))
  have a0 := a'.cell 0
  have a1 := a'.cell 1
  clear a'
  have hkB := Blk.new w6 24 #[.int .i64 (wW p q), .slice G g kk]
  have hbB := lo_alloc (Below.refl w6.heap.size w6) (.cells #[.int .i64 (wW p q), .slice G g kk] 24)
  have hbBz : w6.heap.size < (w6.alloc (.cells #[.int .i64 (wW p q), .slice G g kk] 24)).heap.size := by simp
  go_wp2_with fail
  generalize w6.alloc (.cells #[.int .i64 (wW p q), .slice G g kk] 24) = wB at hkB hbB hbBz a0 a1 ⊢
  refine (eqImage_t _ _ _ _ _ _ _ (wX p q) _ (ho6.next hbB).rd (ho3.next (by (repeat (first | exact Below.refl _ _ | assumption | refine lo_alloc ?_ _ | refine lo_set ?_ (by simp; try omega) _ | refine Below.drew ?_ | refine below_drewN ?_ _ | refine lo_trans ?_ (by assumption) | refine lo_wr ?_ (by assumption) (by omega))))).rd (by omega)).mono ?_
  rintro e w7 ⟨rfl, hb7⟩
  have hs7 := hb7.size
  clear a0 a1
  go_wp2_with fail
  refine (toIntS_c _ _ _ p _ (hp.next (by (repeat (first | exact Below.refl _ _ | assumption | refine lo_alloc ?_ _ | refine lo_set ?_ (by simp; try omega) _ | refine Below.drew ?_ | refine below_drewN ?_ _ | refine lo_trans ?_ (by assumption) | refine lo_wr ?_ (by assumption) (by omega))))) (by omega)).mono ?_
  rintro e w8 ⟨rfl, hb8, ho8, hz8⟩
  go_wp2_with fail
  refine (eqIntS_t _ _ _ _ _ _ p _ (ho4.next (by (repeat (first | exact Below.refl _ _ | assumption | refine lo_alloc ?_ _ | refine lo_set ?_ (by simp; try omega) _ | refine Below.drew ?_ | refine below_drewN ?_ _ | refine lo_trans ?_ (by assumption) | refine lo_wr ?_ (by assumption) (by omega))))).rd ho8.rd (by omega)).mono ?_
  rintro e w9 ⟨rfl, hb9⟩
  have hs9 := hb9.size
  go_wp2_with fail
  refine (toIntS_c _ _ _ q _ (hq.next (by (repeat (first | exact Below.refl _ _ | assumption | refine lo_alloc ?_ _ | refine lo_set ?_ (by simp; try omega) _ | refine Below.drew ?_ | refine below_drewN ?_ _ | refine lo_trans ?_ (by assumption) | refine lo_wr ?_ (by assumption) (by omega))))) (by omega)).mono ?_
  rintro e w10 ⟨rfl, hb10, ho10, hz10⟩
  go_wp2_with fail
  refine (eqIntS_t _ _ _ _ _ _ q _ (ho5.next (by (repeat (first | exact Below.refl _ _ | assumption | refine lo_alloc ?_ _ | refine lo_set ?_ (by simp; try omega) _ | refine Below.drew ?_ | refine below_drewN ?_ _ | refine lo_trans ?_ (by assumption) | refine lo_wr ?_ (by assumption) (by omega))))).rd ho10.rd (by omega)).mono ?_
  rintro e w11 ⟨rfl, hb11⟩
  have hs11 := hb11.size
  go_wp2_with fail
  -- the marks: x0, x1
  refine (markIntS_c _ _ _ _ _ p _ (ho4.next (by (repeat (first | exact Below.refl _ _ | assumption | refine lo_alloc ?_ _ | refine lo_set ?_ (by simp; try omega) _ | refine Below.drew ?_ | refine below_drewN ?_ _ | refine lo_trans ?_ (by assumption) | refine lo_wr ?_ (by assumption) (by omega))))) (by omega) (by omega) (by omega)).mono ?_
  rintro e w12 ⟨rfl, hb12', ho12⟩
  have hb12 : Wr wA.heap.size w4.heap.size w11 w12 := ⟨_, hb12', ho4.row⟩
  have hs12 := hb12.size
  clear hb12'
  go_wp2_with fail
  refine (markIntS_c _ _ _ _ _ q _ ((ho5.next (w' := w11) (by (repeat (first | exact Below.refl _ _ | assumption | refine lo_alloc ?_ _ | refine lo_set ?_ (by simp; try omega) _ | refine Below.drew ?_ | refine below_drewN ?_ _ | refine lo_trans ?_ (by assumption) | refine lo_wr ?_ (by assumption) (by omega))))).wr hb12 (by omega)) (by omega) (by omega) (by omega)).mono ?_
  rintro e w13 ⟨rfl, hb13', ho13⟩
  have hb13 : Wr w4.heap.size w5.heap.size w12 w13 := ⟨_, hb13', ho5.row⟩
  have hs13 := hb13.size
  clear hb13'
  have kB13 : Blk w13 w6.heap.size _ _ := ((hkB.next (w' := w11) (by (repeat (first | exact Below.refl _ _ | assumption | refine lo_alloc ?_ _ | refine lo_set ?_ (by simp; try omega) _ | refine Below.drew ?_ | refine below_drewN ?_ _ | refine lo_trans ?_ (by assumption) | refine lo_wr ?_ (by assumption) (by omega))))).wr hb12 (by omega)).wr hb13 (by omega)
  have oG13 := ((ho6.next (w' := w11) (by (repeat (first | exact Below.refl _ _ | assumption | refine lo_alloc ?_ _ | refine lo_set ?_ (by simp; try omega) _ | refine Below.drew ?_ | refine below_drewN ?_ _ | refine lo_trans ?_ (by assumption) | refine lo_wr ?_ (by assumption) (by omega))))).wr hb12 (by omega)).wr hb13 (by omega)
  have kA13 : Blk w13 w3.heap.size _ _ := hkA.next (by (repeat (first | exact Below.refl _ _ | assumption | refine lo_alloc ?_ _ | refine lo_set ?_ (by simp; try omega) _ | refine Below.drew ?_ | refine below_drewN ?_ _ | refine lo_trans ?_ (by assumption) | refine lo_wr ?_ (by assumption) (by omega))))
  have oR13 : Own w13 _ _ _ _ := ho3.next (by (repeat (first | exact Below.refl _ _ | assumption | refine lo_alloc ?_ _ | refine lo_set ?_ (by simp; try omega) _ | refine Below.drew ?_ | refine below_drewN ?_ _ | refine lo_trans ?_ (by assumption) | refine lo_wr ?_ (by assumption) (by omega))))
  have a0 := kA13.cell 0
  have a1 := kA13.cell 1
  have b0 := kB13.cell 0
  have b1 := kB13.cell 1
  have hkp : (0 : Int) ≤ 1 + n + m := by omega
  go_wp2_with fail
  refine (eqImage_t _ _ _ _ _ _ _ (wX p q) _ oG13.rd oR13.rd (by omega)).mono ?_
  rintro e w14 ⟨rfl, hb14⟩
  have hs14 := hb14.size
  clear a0 a1 b0 b1
  have b0 := (kB13.next hb14).cell 0
  have b1 := (kB13.next hb14).cell 1
  go_wp2_with fail
  refine (markImage_c _ _ _ _ _ _ (wX p q) _ (oG13.next hb14) (by omega) (by omega) (by omega)).mono ?_
  rintro e w15 ⟨rfl, hb15', oG15⟩
  have hb15 : Wr w5.heap.size w6.heap.size w14 w15 := ⟨_, hb15', ho6.row⟩
  have hs15 := hb15.size
  clear b0 b1 hb15'
  have kB15 := (kB13.next hb14).wr hb15 (by omega)
  have b0 := kB15.cell 0
  have b1 := kB15.cell 1
  go_wp2_with fail
  refine (heldImage_c _ _ _ _ _ _ oG15.rd (by omega) (by omega) (by omega)).mono ?_
  rintro e w16 ⟨rfl, hb16⟩
  have hs16 := hb16.size
  clear b0 b1
  go_wp2_with fail
  -- the second call
  refine (toIntS_c _ _ _ p _ (hp.next (by (repeat (first | exact Below.refl _ _ | assumption | refine lo_alloc ?_ _ | refine lo_set ?_ (by simp; try omega) _ | refine Below.drew ?_ | refine below_drewN ?_ _ | refine lo_trans ?_ (by assumption) | refine lo_wr ?_ (by assumption) (by omega))))) (by omega)).mono ?_
  rintro e w17 ⟨rfl, hb17, ho17, hz17⟩
  go_wp2_with fail
  refine (toIntS_c _ _ _ q _ (hq.next (by (repeat (first | exact Below.refl _ _ | assumption | refine lo_alloc ?_ _ | refine lo_set ?_ (by simp; try omega) _ | refine Below.drew ?_ | refine below_drewN ?_ _ | refine lo_trans ?_ (by assumption) | refine lo_wr ?_ (by assumption) (by omega))))) (by omega)).mono ?_
  rintro e w18 ⟨rfl, hb18, ho18, hz18⟩
  go_wp2_with fail
  refine (impl_WeightsImage_c _ _ _ _ _ _ p q _ (ho17.next hb18).rd ho18.rd (by omega) (by omega)).mono ?_
  rintro e w19 ⟨H, h, hh, rfl, hb19, ho19⟩
  have hh1 : h ≤ 6 := by rw [← ho19.1]; exact wX_len p q
  have hs19 := hb19.size
  have kA15 : Blk w15 w3.heap.size _ _ := (kA13.next hb14).wr hb15 (by omega)
  have a' : Blk (w19.alloc (.cells #[.int .i64 (wW p q), .slice H h hh] 24)) _ _ _ := kA15.next (by (repeat (first | exact Below.refl _ _ | assumption | refine lo_alloc ?_ _ | refine lo_set ?_ (by simp; try omega) _ | refine Below.drew ?_ | refine below_drewN ?_ _ | refine lo_trans ?_ (by assumption) | refine lo_wr ?_ (by assumption) (by omega))))
  have a0 := a'.cell 0
  have a1 := a'.cell 1
  clear a'
  have hkC := Blk.new w19 24 #[.int .i64 (wW p q), .slice H h hh]
  have hbC := lo_alloc (Below.refl w19.heap.size w19) (.cells #[.int .i64 (wW p q), .slice H h hh] 24)
  have hbCz : w19.heap.size < (w19.alloc (.cells #[.int .i64 (wW p q), .slice H h hh] 24)).heap.size := by simp
  go_wp2_with fail
  generalize w19.alloc (.cells #[.int .i64 (wW p q), .slice H h hh] 24) = wC at hkC hbC hbCz a0 a1 ⊢
  refine (eqImage_t _ _ _ _ _ _ _ (wX p q) _ (ho19.next hbC).rd (ho3.next (by (repeat (first | exact Below.refl _ _ | assumption | refine lo_alloc ?_ _ | refine lo_set ?_ (by simp; try omega) _ | refine Below.drew ?_ | refine below_drewN ?_ _ | refine lo_trans ?_ (by assumption) | refine lo_wr ?_ (by assumption) (by omega))))).rd (by omega)).mono ?_
  rintro e w20 ⟨rfl, hb20⟩
  have hs20 := hb20.size
  clear a0 a1
  have kB20 : Blk w20 w6.heap.size _ _ := kB15.next (by (repeat (first | exact Below.refl _ _ | assumption | refine lo_alloc ?_ _ | refine lo_set ?_ (by simp; try omega) _ | refine Below.drew ?_ | refine below_drewN ?_ _ | refine lo_trans ?_ (by assumption) | refine lo_wr ?_ (by assumption) (by omega))))
  have b0 := kB20.cell 0
  have b1 := kB20.cell 1
  go_wp2_with fail
  refine (heldImage_c _ _ _ _ _ _ (oG15.next (by (repeat (first | exact Below.refl _ _ | assumption | refine lo_alloc ?_ _ | refine lo_set ?_ (by simp; try omega) _ | refine Below.drew ?_ | refine below_drewN ?_ _ | refine lo_trans ?_ (by assumption) | refine lo_wr ?_ (by assumption) (by omega))))).rd (by omega) (by omega) (by omega)).mono ?_
  rintro e w21 ⟨rfl, hb21⟩
  go_wp2
  go_ret
  exact ⟨rfl, by (repeat (first | exact Below.refl _ _ | assumption | refine lo_alloc ?_ _ | refine lo_set ?_ (by simp; try omega) _ | refine Below.drew ?_ | refine below_drewN ?_ _ | refine lo_trans ?_ (by assumption) | refine lo_wr ?_ (by assumption) (by omega)))⟩
end Go.Proofs.Ytlhhafgfpmgbcaa
