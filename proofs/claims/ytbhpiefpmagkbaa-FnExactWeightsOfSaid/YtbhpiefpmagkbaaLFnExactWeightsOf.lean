/- The law FnExactWeightsOf walked. -/
import Derived.Test.YtbhpiefpmagkbaaWo
import Derived.Test.YtbhpiefpmagkbaaKb
import Derived.Deep.RegionHeld3
namespace Go.Proofs.Ytbhpiefpmagkbaa
open Go.RowKit
set_option maxRecDepth 100000

theorem Own.grownR {w w' : World} {lo n : Nat} {A : Option Addr} {xs : List Int} {row : Option Nat} (h : Own w lo A n xs) (hb : w.grownBy w' row) (hne : ∀ g, row = some g → rowOf A n ≠ some g) : Own w' lo A n xs := by
  rcases Nat.eq_zero_or_pos n with rfl | hp
  · have e : xs = [] := List.length_eq_zero_iff.1 h.1
    subst e
    exact Own.nil_ _ _ _
  · refine h.grown hb ?_
    rintro g rfl e
    exact hne g e (rowOf_some (i := 0) hp)

set_option maxHeartbeats 8000000 in
theorem law_ExactWeightsOf (W : Int) (C : Option Addr) (l e : Nat) (xs : List Int) (w : World) (hx : Rd w C l xs) (hlb : l ≤ maxLen) :
    Calls Try.prog 3 #[.agg #[.int .i64 W, .slice C l e]] w fun e w' => e = .returned (.bool true) ∧ Below w.heap.size w w' := by
  unfold maxLen at hlb
  go_enter Try.func3, Try.ntmps3
  go_wp2_with fail
  refine (szImage_c _ _ _ _ _ _ hlb (by omega) (by omega)).mono ?_
  rintro e w1 ⟨rfl, hb1⟩
  by_cases h3 : 1048576 < l
  · have h3' : (if (1048576 : Int) - l < 0 then (-1 : Int) else 1048576 - l) = -1 := if_pos (by omega)
    rw [h3']
    go_wp2
    go_ret
    exact ⟨rfl, by (repeat (first | exact Below.refl _ _ | assumption | refine lo_alloc ?_ _ | refine lo_set ?_ (by simp; try omega) _ | refine Below.drew ?_ | refine below_drewN ?_ _ | refine lo_trans ?_ (by assumption) | refine lo_wr ?_ (by assumption) (by omega)))⟩
  have h3' : (if (1048576 : Int) - l < 0 then (-1 : Int) else 1048576 - l) = 1048576 - l := if_neg (by omega)
  rw [h3']
  clear h3'
  have hkz : Blk w1 w.heap.size _ _ := (Blk.new w 24 #[.int .i64 W, .slice C l e]).next hb1
  have hb1' : Below w.heap.size w w1 := by (repeat (first | exact Below.refl _ _ | assumption | refine lo_alloc ?_ _ | refine lo_set ?_ (by simp; try omega) _ | refine Below.drew ?_ | refine below_drewN ?_ _ | refine lo_trans ?_ (by assumption) | refine lo_wr ?_ (by assumption) (by omega)))
  have hx1 : Rd w1 C l xs := hx.next hb1'
  have z0 := hkz.cell 0
  have z1 := hkz.cell 1
  go_wp2_with fail
  refine (toImage_c _ _ _ _ xs _ hx1 (by omega)).mono ?_
  rintro e w2 ⟨g2, rfl, hb2, ho2, hg2, hz2⟩
  go_wp2_with fail
  refine (spec_WeightsOf_c _ _ _ _ xs _ ho2.rd (by omega)).mono ?_
  rintro e w3 ⟨P3, p3, p3', Q3, q3, q3', rfl, hb3, hP3, hQ3, -⟩
  have hp3 : p3 ≤ 6 := by rw [← hP3.1]; exact ofP_len
  have hq3 : q3 ≤ 6 := by rw [← hQ3.1]; exact ofQ_len
  have hB3 : Below w.heap.size w w3 := lo_trans (lo_trans hb1' hb2) hb3
  have hx3 : Rd w3 C l xs := hx.next hB3
  have hkz3 : Blk w3 w.heap.size _ _ := (hkz.next hb2).next hb3
  have hRP := hP3.rd
  have hRQ := hQ3.rd
  clear z0 z1 hb1 hb2 hb3 ho2 hkz hx1 hP3 hQ3
  have z0 := hkz3.cell 0
  have z1 := hkz3.cell 1
  go_wp2_with fail
  refine (toImage_c _ _ _ _ xs _ hx3 (by omega)).mono ?_
  rintro e w4 ⟨g4, rfl, hb4, ho4, hg4, hz4⟩
  have hkA := Blk.new w4 28 #[.int .i64 W, .slice (some ⟨g4, 0, none⟩) l l]
  have hbA := lo_alloc (Below.refl w4.heap.size w4) (.cells #[.int .i64 W, .slice (some ⟨g4, 0, none⟩) l l] 28)
  have hszA : w4.heap.size < (w4.alloc (.cells #[.int .i64 W, .slice (some ⟨g4, 0, none⟩) l l] 28)).heap.size := by simp
  go_wp2_with fail
  generalize w4.alloc (.cells #[.int .i64 W, .slice (some ⟨g4, 0, none⟩) l l] 28) = wA at hkA hbA hszA ⊢
  have h3A : Below w3.heap.size w3 wA := lo_trans hb4 hbA
  have hoA : Own wA w3.heap.size (some ⟨g4, 0, none⟩) l xs := ho4.next hbA
  refine (impl_WeightsOf_c _ _ _ _ xs _ hoA.rd (by omega)).mono ?_
  rintro e w5 ⟨P5, p5, p5', Q5, q5, q5', rfl, hb5, hP5, hQ5, hne5⟩
  have hp5 : p5 ≤ 6 := by rw [← hP5.1]; exact ofP_len
  have hq5 : q5 ≤ 6 := by rw [← hQ5.1]; exact ofQ_len
  have hne5' := Lib.hid hne5
  have h35 : Below w3.heap.size w3 w5 := lo_trans h3A hb5
  clear z0 z1 h3A hb4 hne5
  go_wp2_with fail
  refine (eqIntS_t _ _ _ _ _ _ (ofP W xs) _ hP5.rd (hRP.next h35) (by omega)).mono ?_
  rintro e w6 ⟨rfl, hb6⟩
  go_wp2_with fail
  refine (eqIntS_t _ _ _ _ _ _ (ofQ W xs) _ (hQ5.next hb6).rd (hRQ.next (lo_trans h35 hb6)) (by omega)).mono ?_
  rintro e w7 ⟨rfl, hb7⟩
  have h57 := lo_trans hb6 hb7
  have h37 := lo_trans h35 h57
  have hP7 := hP5.next h57
  have hQ7 := hQ5.next h57
  have hkA7 : Blk w7 w4.heap.size _ _ := (hkA.next hb5).next h57
  have hkz7 : Blk w7 w.heap.size _ _ := hkz3.next h37
  have hx7 : Rd w7 C l xs := hx3.next h37
  have ho7 : Own w7 w3.heap.size (some ⟨g4, 0, none⟩) l xs := (hoA.next hb5).next h57
  have hs7 : wA.heap.size ≤ w7.heap.size := Nat.le_trans hb5.size h57.size
  clear hP5 hQ5 h35 h57 hb5 hb6 hb7 hkA hoA hbA
  have a0 := hkA7.cell 0
  have a1 := hkA7.cell 1
  have z0 := hkz7.cell 0
  have z1 := hkz7.cell 1
  go_wp2_with fail
  go_region_held3 (fun w' => w'.cell? ⟨w.heap.size, 0, none⟩ = some (.int .i64 W) ∧ w'.cell? ⟨w.heap.size, 1, none⟩ = some (.slice C l e) ∧ w'.cell? ⟨w4.heap.size, 0, none⟩ = some (.int .i64 W) ∧ w'.cell? ⟨w4.heap.size, 1, none⟩ = some (.slice (some ⟨g4, 0, none⟩) l l))
    (first
      | go_keep
      | exact ⟨(hkz7.next (by (repeat (first | exact Below.refl _ _ | assumption | refine lo_alloc ?_ _ | refine lo_set ?_ (by simp; try omega) _ | refine Below.drew ?_ | refine below_drewN ?_ _ | refine lo_trans ?_ (by assumption) | refine lo_wr ?_ (by assumption) (by omega))))).cell 0, (hkz7.next (by (repeat (first | exact Below.refl _ _ | assumption | refine lo_alloc ?_ _ | refine lo_set ?_ (by simp; try omega) _ | refine Below.drew ?_ | refine below_drewN ?_ _ | refine lo_trans ?_ (by assumption) | refine lo_wr ?_ (by assumption) (by omega))))).cell 1, (hkA7.next (by (repeat (first | exact Below.refl _ _ | assumption | refine lo_alloc ?_ _ | refine lo_set ?_ (by simp; try omega) _ | refine Below.drew ?_ | refine below_drewN ?_ _ | refine lo_trans ?_ (by assumption) | refine lo_wr ?_ (by assumption) (by omega))))).cell 0, (hkA7.next (by (repeat (first | exact Below.refl _ _ | assumption | refine lo_alloc ?_ _ | refine lo_set ?_ (by simp; try omega) _ | refine Below.drew ?_ | refine below_drewN ?_ _ | refine lo_trans ?_ (by assumption) | refine lo_wr ?_ (by assumption) (by omega))))).cell 1⟩)
    (first
      | (go_at_call 10; refine (toImage_c _ _ _ _ xs _ (hx7.next (by (repeat (first | exact Below.refl _ _ | assumption | refine lo_alloc ?_ _ | refine lo_set ?_ (by simp; try omega) _ | refine Below.drew ?_ | refine below_drewN ?_ _ | refine lo_trans ?_ (by assumption) | refine lo_wr ?_ (by assumption) (by omega))))) (by omega)).mono ?_; rintro e w10 ⟨g10, rfl, hb10, ho10, hg10, hz10⟩)
      | (go_at_call 13; refine (eqImage_t _ _ _ _ _ _ _ xs _ (ho7.next (by (repeat (first | exact Below.refl _ _ | assumption | refine lo_alloc ?_ _ | refine lo_set ?_ (by simp; try omega) _ | refine Below.drew ?_ | refine below_drewN ?_ _ | refine lo_trans ?_ (by assumption) | refine lo_wr ?_ (by assumption) (by omega))))).rd (ho10.next (by (repeat (first | exact Below.refl _ _ | assumption | refine lo_alloc ?_ _ | refine lo_set ?_ (by simp; try omega) _ | refine Below.drew ?_ | refine below_drewN ?_ _ | refine lo_trans ?_ (by assumption) | refine lo_wr ?_ (by assumption) (by omega))))).rd (by omega)).mono ?_; rintro e w11 ⟨rfl, hb11⟩))
  have h7b : Below w7.heap.size w7 w11 := by (repeat (first | exact Below.refl _ _ | assumption | refine lo_alloc ?_ _ | refine lo_set ?_ (by simp; try omega) _ | refine Below.drew ?_ | refine below_drewN ?_ _ | refine lo_trans ?_ (by assumption) | refine lo_wr ?_ (by assumption) (by omega)))
  have h311 := lo_trans h37 h7b
  have hP11 := hP7.next h7b
  have hQ11 := hQ7.next h7b
  have hkA11 : Blk w11 w4.heap.size _ _ := hkA7.next h7b
  have ho11 : Own w11 w3.heap.size (some ⟨g4, 0, none⟩) l xs := ho7.next h7b
  have hs11 : wA.heap.size ≤ w11.heap.size := Nat.le_trans hs7 h7b.size
  clear hP7 hQ7 h37 hb10 hb11 ho10 hkA7 ho7 a0 a1 z0 z1 hkz7 hx7 h7b
  have a0 := hkA11.cell 0
  have a1 := hkA11.cell 1
  go_wp2_with fail
  refine (markImage_c _ _ _ _ _ _ xs _ ho11 (by omega) (by omega) (by omega)).mono ?_
  rintro e w12 ⟨rfl, hg12, ho12⟩
  have hrw := ho4.row
  have hrw4 : ∀ g, rowOf (some ⟨g4, 0, none⟩) l = some g → w3.heap.size ≤ g ∧ g < wA.heap.size := fun g hg => by have := hrw g hg; omega
  have hP12 := hP11.grown_lo hg12 (fun g hg => (hrw4 g hg).2)
  have hQ12 := hQ11.grown_lo hg12 (fun g hg => (hrw4 g hg).2)
  have h312 := lo_grown h311 hg12 (fun g hg => (hrw4 g hg).1)
  clear hP11 hQ11 h311 hg12 ho12 ho11 a0 a1 hkA11 hrw
  go_wp2_with fail
  refine (eqIntS_t _ _ _ _ _ _ (ofP W xs) _ hP12.rd (hRP.next h312) (by omega)).mono ?_
  rintro e w13 ⟨rfl, hb13⟩
  go_wp2_with fail
  refine (eqIntS_t _ _ _ _ _ _ (ofQ W xs) _ (hQ12.next hb13).rd (hRQ.next (lo_trans h312 hb13)) (by omega)).mono ?_
  rintro e w14 ⟨rfl, hb14⟩
  have h1214 := lo_trans hb13 hb14
  have h314 := lo_trans h312 h1214
  have hP14 := hP12.next h1214
  have hQ14 := hQ12.next h1214
  clear hP12 hQ12 hb13 hb14 h312 h1214
  go_wp2_with fail
  refine (markIntS_c _ _ _ _ _ (ofP W xs) _ hP14 (by omega) (by omega) (by omega)).mono ?_
  rintro e w15 ⟨rfl, hg15, hP15⟩
  have hrP := hP14.row
  have hrQ := hQ14.row
  have hQ15 := hQ14.grownR hg15 hne5'.out
  have h315 := lo_grown h314 hg15 (fun g hg => by have := (hrP g hg).1; omega)
  clear hP14 hQ14 h314 hg15
  go_wp2_with fail
  refine (markIntS_c _ _ _ _ _ (ofQ W xs) _ hQ15 (by omega) (by omega) (by omega)).mono ?_
  rintro e w16 ⟨rfl, hg16, hQ16⟩
  have hP16 := hP15.grownR hg16 (fun g h1 h2 => hne5'.out g h2 h1)
  have h316 := lo_grown h315 hg16 (fun g hg => by have := (hrQ g hg).1; omega)
  clear hP15 hQ15 h315 hg16 hrP hrQ
  go_wp2_with fail
  refine (heldIntS_c _ _ _ _ _ hP16.rd (by omega) (by omega) (by omega)).mono ?_
  rintro e w' ⟨rfl, rfl⟩
  have hv0 : ¬ (1 : Int) + (p5 : Int) < 0 := by omega
  go_wp2_with fail
  refine (heldIntS_c _ _ _ _ _ hQ16.rd (by omega) (by omega) (by omega)).mono ?_
  rintro e w' ⟨rfl, rfl⟩
  have hv1 : ¬ (1 : Int) + (p5 : Int) + (q5 : Int) < 0 := by omega
  have hkz16 : Blk w16 w.heap.size _ _ := hkz3.next h316
  have z0 := hkz16.cell 0
  have z1 := hkz16.cell 1
  go_wp2_with fail
  refine (toImage_c _ _ _ _ xs _ (hx3.next h316) (by omega)).mono ?_
  rintro e w17 ⟨g17, rfl, hb17, ho17, hg17, hz17⟩
  have h317 := lo_trans h316 hb17
  have hP17 := hP16.next hb17
  have hQ17 := hQ16.next hb17
  clear z0 z1 hkz16 hP16 hQ16 h316 hb17
  go_wp2_with fail
  refine (impl_WeightsOf_c _ _ _ _ xs _ ho17.rd (by omega)).mono ?_
  rintro e w18 ⟨P8, p8, p8', Q8, q8, q8', rfl, hb18, hP8, hQ8, -⟩
  have hp8 : p8 ≤ 6 := by rw [← hP8.1]; exact ofP_len
  have hq8 : q8 ≤ 6 := by rw [← hQ8.1]; exact ofQ_len
  have h318 := lo_trans h317 hb18
  have hP18 := hP17.next hb18
  have hQ18 := hQ17.next hb18
  clear hP17 hQ17 h317 hb18 ho17
  go_wp2_with fail
  refine (eqIntS_t _ _ _ _ _ _ (ofP W xs) _ hP8.rd (hRP.next h318) (by omega)).mono ?_
  rintro e w19 ⟨rfl, hb19⟩
  go_wp2_with fail
  refine (eqIntS_t _ _ _ _ _ _ (ofQ W xs) _ (hQ8.next hb19).rd (hRQ.next (lo_trans h318 hb19)) (by omega)).mono ?_
  rintro e w20 ⟨rfl, hb20⟩
  have h1820 := lo_trans hb19 hb20
  have h320 := lo_trans h318 h1820
  have hP20 := hP18.next h1820
  have hQ20 := hQ18.next h1820
  clear hP18 hQ18 h318 hb19 hb20 hP8 hQ8 h1820
  go_wp2_with fail
  refine (heldIntS_c _ _ _ _ _ hP20.rd (by omega) (by omega) (by omega)).mono ?_
  rintro e w' ⟨rfl, rfl⟩
  go_wp2_with fail
  refine (heldIntS_c _ _ _ _ _ hQ20.rd (by omega) (by omega) (by omega)).mono ?_
  rintro e w' ⟨rfl, rfl⟩
  go_wp2
  go_ret
  exact ⟨rfl, lo_trans hB3 h320⟩
end Go.Proofs.Ytbhpiefpmagkbaa
