/- The law FnExactImageNeighbors walked. -/
import Derived.Test.YtnoegpdgcejbnaaLm
import Derived.Test.YtnoegpdgcejbnaaSpd
import Derived.Test.YtnoegpdgcejbnaaNl
namespace Go.Proofs.Ytnoegpdgcejbnaa
open Go.RowKit
set_option maxRecDepth 100000

set_option maxHeartbeats 8000000 in
theorem law_ExactImageNeighbors (W : Int) (C : Option Addr) (l e : Nat) (xs : List Int) (w : World) (hx : Rd w C l xs) (hlb : l ≤ maxLen) :
    Calls Try.prog 3 #[.agg #[.int .i64 W, .slice C l e]] w fun e w' => e = .returned (.bool true) ∧ Below w.heap.size w w' := by
  unfold maxLen at hlb
  have hnl := nbrsW_len W xs
  have hnr := Lib.hid (nbrsW_row W xs)
  have hnr2 : Hid (∀ y ∈ nbrsW W xs, y.length ≤ 1073741824) := Lib.hid (fun y hy => by have := hnr.out y hy; omega)
  go_enter Try.func3, Try.ntmps3
  go_wp2_with fail
  refine (szImage_c _ _ _ _ _ _ hlb (by omega) (by omega)).mono ?_
  rintro e w1 ⟨rfl, hb1⟩
  by_cases h3 : 1048576 < l
  · have h3' : (if (1048576 : Int) - l < 0 then (-1 : Int) else 1048576 - l) = -1 := if_pos (by omega)
    rw [h3']
    go_wp2
    go_ret
    exact ⟨rfl, by (repeat (first | exact Below.refl _ _ | assumption | refine lo_alloc ?_ _ | refine lo_set ?_ (by simp; try omega) _ | refine Below.drew ?_ | refine below_drewN ?_ _ | refine lo_trans ?_ (by assumption) | refine lo_wr ?_ (by assumption) (by omega)))⟩
  have h3' : (if (1048576 : Int) - l < 0 then (-1 : Int) else 1048576 - l) = 1048576 - l := if_neg (by omega)
  rw [h3']
  clear h3'
  have hkz : Blk w1 w.heap.size _ _ := (Blk.new w 24 #[.int .i64 W, .slice C l e]).next hb1
  have hb1' : Below w.heap.size w w1 := by (repeat (first | exact Below.refl _ _ | assumption | refine lo_alloc ?_ _ | refine lo_set ?_ (by simp; try omega) _ | refine Below.drew ?_ | refine below_drewN ?_ _ | refine lo_trans ?_ (by assumption) | refine lo_wr ?_ (by assumption) (by omega)))
  have hx1 : Rd w1 C l xs := hx.next hb1'
  have z0 := hkz.cell 0
  have z1 := hkz.cell 1
  go_wp2_with fail
  refine (toImage_c _ _ _ _ xs _ hx1 (by omega)).mono ?_
  rintro e w2 ⟨g2, rfl, hb2, ho2, hg2, hz2⟩
  go_wp2_with fail
  refine (spec_ImageNeighbors_c _ _ _ _ xs _ ho2.rd (by omega)).mono ?_
  rintro e w3 ⟨R3, c3, es3, rfl, hb3, hI3, hE3⟩
  have hB3 : Below w.heap.size w w3 := lo_trans (lo_trans hb1' hb2) hb3
  have hx3 : Rd w3 C l xs := hx.next hB3
  have hkz3 : Blk w3 w.heap.size _ _ := (hkz.next hb2).next hb3
  have hR3 := hI3.rdI
  have hE3' := Lib.hid hE3
  have hl3 : es3.length < 1600 := by rw [hE3.len]; exact hnl
  clear z0 z1 hI3 hE3 hb1 hb2 hb3 ho2 hkz hx1
  have z0 := hkz3.cell 0
  have z1 := hkz3.cell 1
  go_wp2_with fail
  refine (toImage_c _ _ _ _ xs _ hx3 (by omega)).mono ?_
  rintro e w4 ⟨g4, rfl, hb4, ho4, hg4, hz4⟩
  have hkA := Blk.new w4 28 #[.int .i64 W, .slice (some ⟨g4, 0, none⟩) l l]
  have hbA := lo_alloc (Below.refl w4.heap.size w4) (.cells #[.int .i64 W, .slice (some ⟨g4, 0, none⟩) l l] 28)
  have hszA : w4.heap.size < (w4.alloc (.cells #[.int .i64 W, .slice (some ⟨g4, 0, none⟩) l l] 28)).heap.size := by simp
  go_wp2_with fail
  generalize w4.alloc (.cells #[.int .i64 W, .slice (some ⟨g4, 0, none⟩) l l] 28) = wA at hkA hbA hszA ⊢
  have h3A : Below w3.heap.size w3 wA := lo_trans hb4 hbA
  have hoA : Own wA w3.heap.size (some ⟨g4, 0, none⟩) l xs := ho4.next hbA
  refine (impl_ImageNeighbors_c _ _ _ _ xs _ hoA.rd (by omega)).mono ?_
  rintro e w5 ⟨R5, c5, es5, rfl, hb5, hI5, hE5⟩
  have h35 : Below w3.heap.size w3 w5 := lo_trans h3A hb5
  have hE5' := Lib.hid hE5
  have hl5 : es5.length < 1600 := by rw [hE5.len]; exact hnl
  clear z0 z1 hE5 h3A hb4
  go_wp2_with fail
  refine (eqImageS_t _ _ _ _ _ _ W es5 es3 _ _ hI5.rdI (hR3.next h35) hE5'.out hE3'.out (by omega) hnr2.out).mono ?_
  rintro e w6 ⟨rfl, hb6⟩
  have h36 := lo_trans h35 hb6
  have hI6 := hI5.next hb6
  have hkA6 : Blk w6 w4.heap.size _ _ := (hkA.next hb5).next hb6
  have hkz6 : Blk w6 w.heap.size _ _ := hkz3.next h36
  have hx6 : Rd w6 C l xs := hx3.next h36
  have ho6 : Own w6 w3.heap.size (some ⟨g4, 0, none⟩) l xs := (hoA.next hb5).next hb6
  have hs6 : wA.heap.size ≤ w6.heap.size := Nat.le_trans hb5.size hb6.size
  clear hI5 h35 hb5 hb6 hkA hoA hbA
  have a0 := hkA6.cell 0
  have a1 := hkA6.cell 1
  have z0 := hkz6.cell 0
  have z1 := hkz6.cell 1
  go_wp2_with fail
  go_region_held3 (fun w' => w'.cell? ⟨w.heap.size, 0, none⟩ = some (.int .i64 W) ∧ w'.cell? ⟨w.heap.size, 1, none⟩ = some (.slice C l e) ∧ w'.cell? ⟨w4.heap.size, 0, none⟩ = some (.int .i64 W) ∧ w'.cell? ⟨w4.heap.size, 1, none⟩ = some (.slice (some ⟨g4, 0, none⟩) l l))
    (first
      | go_keep
      | exact ⟨(hkz6.next (by (repeat (first | exact Below.refl _ _ | assumption | refine lo_alloc ?_ _ | refine lo_set ?_ (by simp; try omega) _ | refine Below.drew ?_ | refine below_drewN ?_ _ | refine lo_trans ?_ (by assumption) | refine lo_wr ?_ (by assumption) (by omega))))).cell 0, (hkz6.next (by (repeat (first | exact Below.refl _ _ | assumption | refine lo_alloc ?_ _ | refine lo_set ?_ (by simp; try omega) _ | refine Below.drew ?_ | refine below_drewN ?_ _ | refine lo_trans ?_ (by assumption) | refine lo_wr ?_ (by assumption) (by omega))))).cell 1, (hkA6.next (by (repeat (first | exact Below.refl _ _ | assumption | refine lo_alloc ?_ _ | refine lo_set ?_ (by simp; try omega) _ | refine Below.drew ?_ | refine below_drewN ?_ _ | refine lo_trans ?_ (by assumption) | refine lo_wr ?_ (by assumption) (by omega))))).cell 0, (hkA6.next (by (repeat (first | exact Below.refl _ _ | assumption | refine lo_alloc ?_ _ | refine lo_set ?_ (by simp; try omega) _ | refine Below.drew ?_ | refine below_drewN ?_ _ | refine lo_trans ?_ (by assumption) | refine lo_wr ?_ (by assumption) (by omega))))).cell 1⟩)
    (first
      | (go_at_call 7; refine (toImage_c _ _ _ _ xs _ (hx6.next (by (repeat (first | exact Below.refl _ _ | assumption | refine lo_alloc ?_ _ | refine lo_set ?_ (by simp; try omega) _ | refine Below.drew ?_ | refine below_drewN ?_ _ | refine lo_trans ?_ (by assumption) | refine lo_wr ?_ (by assumption) (by omega))))) (by omega)).mono ?_; rintro e w10 ⟨g10, rfl, hb10, ho10, hg10, hz10⟩)
      | (go_at_call 10; refine (eqImage_t _ _ _ _ _ _ _ xs _ (ho6.next (by (repeat (first | exact Below.refl _ _ | assumption | refine lo_alloc ?_ _ | refine lo_set ?_ (by simp; try omega) _ | refine Below.drew ?_ | refine below_drewN ?_ _ | refine lo_trans ?_ (by assumption) | refine lo_wr ?_ (by assumption) (by omega))))).rd (ho10.next (by (repeat (first | exact Below.refl _ _ | assumption | refine lo_alloc ?_ _ | refine lo_set ?_ (by simp; try omega) _ | refine Below.drew ?_ | refine below_drewN ?_ _ | refine lo_trans ?_ (by assumption) | refine lo_wr ?_ (by assumption) (by omega))))).rd (by omega)).mono ?_; rintro e w11 ⟨rfl, hb11⟩))
  have h6b : Below w6.heap.size w6 w11 := by (repeat (first | exact Below.refl _ _ | assumption | refine lo_alloc ?_ _ | refine lo_set ?_ (by simp; try omega) _ | refine Below.drew ?_ | refine below_drewN ?_ _ | refine lo_trans ?_ (by assumption) | refine lo_wr ?_ (by assumption) (by omega)))
  have h311 := lo_trans h36 h6b
  have hI11 := hI6.next h6b
  have hkA11 : Blk w11 w4.heap.size _ _ := hkA6.next h6b
  have ho11 : Own w11 w3.heap.size (some ⟨g4, 0, none⟩) l xs := ho6.next h6b
  have hs11 : wA.heap.size ≤ w11.heap.size := Nat.le_trans hs6 h6b.size
  clear hI6 h36 hb10 hb11 ho10 hkA6 ho6 a0 a1 z0 z1 hkz6 hx6 h6b
  have a0 := hkA11.cell 0
  have a1 := hkA11.cell 1
  go_wp2_with fail
  refine (markImage_c _ _ _ _ _ _ xs _ ho11 (by omega) (by omega) (by omega)).mono ?_
  rintro e w12 ⟨rfl, hg12, ho12⟩
  have hrw := ho4.row
  have hrw4 : ∀ g, rowOf (some ⟨g4, 0, none⟩) l = some g → w3.heap.size ≤ g ∧ g < wA.heap.size := fun g hg => by have := hrw g hg; omega
  have hI12 := hI11.grown hg12 (fun g hg => (hrw4 g hg).2)
  have h312 := lo_grown h311 hg12 (fun g hg => (hrw4 g hg).1)
  have hs12 : wA.heap.size ≤ w12.heap.size := Nat.le_trans hs11 hg12.size
  clear hI11 h311 hg12 ho12 ho11 a0 a1 hkA11 hrw
  go_wp2_with fail
  refine (eqImageS_t _ _ _ _ _ _ W es5 es3 _ _ hI12.rdI (hR3.next h312) hE5'.out hE3'.out (by omega) hnr2.out).mono ?_
  rintro e w13 ⟨rfl, hb13⟩
  have h313 := lo_trans h312 hb13
  have hI13 := hI12.next hb13
  have hs13 : wA.heap.size ≤ w13.heap.size := Nat.le_trans hs12 hb13.size
  have hr5 := Lib.hid (hE5'.out.rows hnr.out)
  clear hI12 h312 hb13
  go_wp2_with fail
  refine (markImageS_c _ _ _ _ 1 es5 _ hI13 rfl (by omega) hr5.out (by omega) (by omega) hs13).mono ?_
  rintro e w14 ⟨rfl, hI14, hb14⟩
  have h314 : Below w3.heap.size w3 w14 := h313.trans (hb14.mono (by omega))
  have hs14 : wA.heap.size ≤ w14.heap.size := Nat.le_trans hs13 hb14.size
  have hR14 : RdI w14 R5 es5.length (mkd 1 es5) := by have := hI14.rdI; rwa [mkd_len] at this
  have hmk := mkE_bd 1 es5 hr5.out
  clear hI13 h313 hb14
  obtain ⟨vm, hvm⟩ : ∃ vm, mkE 1 es5 = vm := ⟨_, rfl⟩
  have hvm' := Lib.hid hvm
  rw [hvm] at hmk ⊢
  clear hvm
  go_wp2_with fail
  refine (heldImageS_c _ _ _ 1 es5 _ hR14 (by omega) hr5.out (by omega) (by omega)).mono ?_
  rw [hvm'.out]
  rintro e w' ⟨rfl, rfl⟩
  have hkz14 : Blk w14 w.heap.size _ _ := hkz3.next h314
  have z0 := hkz14.cell 0
  have z1 := hkz14.cell 1
  have hv0 : ¬ vm < 0 := by omega
  go_wp2_with fail
  refine (toImage_c _ _ _ _ xs _ (hx3.next h314) (by omega)).mono ?_
  rintro e w15 ⟨g15, rfl, hb15, ho15, hg15, hz15⟩
  have h315 := lo_trans h314 hb15
  have hI15 := hI14.next hb15
  clear z0 z1 hkz14 hI14 h314 hb15 hR14
  go_wp2_with fail
  refine (impl_ImageNeighbors_c _ _ _ _ xs _ ho15.rd (by omega)).mono ?_
  rintro e w16 ⟨R16, c16, es16, rfl, hb16, hI16, hE16⟩
  have h316 := lo_trans h315 hb16
  have hIa := hI15.next hb16
  have hE16' := Lib.hid hE16
  have hl16 : es16.length < 1600 := by rw [hE16.len]; exact hnl
  clear hI15 h315 hb16 hE16
  go_wp2_with fail
  refine (eqImageS_t _ _ _ _ _ _ W es16 es3 _ _ hI16.rdI (hR3.next h316) hE16'.out hE3'.out (by omega) hnr2.out).mono ?_
  rintro e w17 ⟨rfl, hb17⟩
  have h317 := lo_trans h316 hb17
  have hIb := hIa.next hb17
  have hR17 : RdI w17 R5 es5.length (mkd 1 es5) := by have := hIb.rdI; rwa [mkd_len] at this
  clear hIa h316 hb17 hI16 hIb
  go_wp2_with fail
  refine (heldImageS_c _ _ _ 1 es5 _ hR17 (by omega) hr5.out (by omega) (by omega)).mono ?_
  rw [hvm'.out]
  rintro e w' ⟨rfl, rfl⟩
  go_wp2
  go_ret
  exact ⟨rfl, lo_trans hB3 h317⟩
end Go.Proofs.Ytnoegpdgcejbnaa
