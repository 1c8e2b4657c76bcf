/- The law FnExactNeighborFar walked. -/
import Derived.Test.YtjogfeichnkffaaNr
import Derived.Deep.RegionHeld3
namespace Go.Proofs.Ytjogfeichnkffaa
open Go.RowKit
set_option maxRecDepth 100000

set_option maxHeartbeats 4000000 in
theorem law_ExactNeighborFar (W : Int) (C : Option Addr) (l e : Nat) (V : Int) (D : Option Addr) (k f : Nat) (xs ys : List Int) (w : World) (hx : Rd w C l xs) (hlb : l ≤ maxLen) (hy : Rd w D k ys) (hkb : k ≤ maxLen) :
    Calls Try.prog 4 #[.agg #[.int .i64 W, .slice C l e], .agg #[.int .i64 V, .slice D k f]] w fun e w' => e = .returned (.bool true) ∧ Below w.heap.size w w' := by
  unfold maxLen at hlb hkb
  have hA0 := (Blk.new w 24 #[.int .i64 W, .slice C l e]).alloc (.cells #[.int .i64 V, .slice D k f] 24)
  have hC0 := heap_at2 w (.cells #[.int .i64 W, .slice C l e] 24) 24 #[.int .i64 V, .slice D k f]
  have hL0 := lo_alloc (lo_alloc (Below.refl w.heap.size w) (.cells #[.int .i64 W, .slice C l e] 24)) (.cells #[.int .i64 V, .slice D k f] 24)
  go_enter Try.func4, Try.ntmps4
  go_wp2_with fail
  refine (szImage_c _ _ _ _ _ _ hlb (by omega) (by omega)).mono ?_
  rintro e w1 ⟨rfl, hb1⟩
  have hL1 := lo_trans hL0 hb1
  have hA1 := hA0.next hb1
  have hC1 := hC0.next hb1
  clear hA0 hC0 hL0 hb1
  by_cases h3 : 1048576 < l
  · have h3' : (if (1048576 : Int) - l < 0 then (-1 : Int) else 1048576 - l) = -1 := if_pos (by omega)
    rw [h3']
    go_wp2
    go_ret
    exact ⟨rfl, hL1⟩
  have h3' : (if (1048576 : Int) - l < 0 then (-1 : Int) else 1048576 - l) = 1048576 - l := if_neg (by omega)
  rw [h3']
  clear h3'
  have c0 := hC1.cell 0
  have c1 := hC1.cell 1
  go_wp2_with fail
  refine (szImage_c _ _ _ _ _ _ hkb (by omega) (by omega)).mono ?_
  rintro e w2 ⟨rfl, hb2⟩
  have hL2 := lo_trans hL1 hb2
  have hA2 := hA1.next hb2
  have hC2 := hC1.next hb2
  clear hA1 hC1 hL1 hb2 c0 c1
  by_cases h4 : (1048576 : Int) - l - k < 0
  · have h4' : (if (1048576 : Int) - l - k < 0 then (-1 : Int) else 1048576 - l - k) = -1 := if_pos h4
    rw [h4']
    go_wp2
    go_ret
    exact ⟨rfl, hL2⟩
  have h4' : (if (1048576 : Int) - l - k < 0 then (-1 : Int) else 1048576 - l - k) = 1048576 - l - k := if_neg h4
  rw [h4']
  clear h4'
  have hx2 := hx.next hL2
  have hy2 := hy.next hL2
  have a0 := hA2.cell 0
  have a1 := hA2.cell 1
  have c0 := hC2.cell 0
  have c1 := hC2.cell 1
  generalize hv : farW W xs V ys = v
  have hv' := Lib.hid hv
  clear hv
  go_wp2_with fail
  go_region_held3 (fun w' => w'.cell? ⟨w.heap.size, 0, none⟩ = some (.int .i64 W) ∧ w'.cell? ⟨w.heap.size, 1, none⟩ = some (.slice C l e) ∧ w'.cell? ⟨w.heap.size + 1, 0, none⟩ = some (.int .i64 V) ∧ w'.cell? ⟨w.heap.size + 1, 1, none⟩ = some (.slice D k f))
    (first
      | go_keep
      | exact ⟨(hA2.next hLc).cell 0, (hA2.next hLc).cell 1, (hC2.next hLc).cell 0, (hC2.next hLc).cell 1⟩
      | exact ⟨(hA2.next hLb).cell 0, (hA2.next hLb).cell 1, (hC2.next hLb).cell 0, (hC2.next hLb).cell 1⟩
      | exact ⟨(hA2.next hLa).cell 0, (hA2.next hLa).cell 1, (hC2.next hLa).cell 0, (hC2.next hLa).cell 1⟩)
    (first
      | (have hz := hLa
         go_at_call 11
         refine (toImage_c _ _ _ _ ys _ (hy2.next hLa) (by omega)).mono ?_
         rintro e w4 ⟨g4, rfl, hb4, ho4, hg4, hz4⟩
         have hLb := lo_trans hLa hb4)
      | (go_at_call 11
         refine (toImage_c _ _ _ _ xs _ hx2.drew (by omega)).mono ?_
         rintro e w3 ⟨g3, rfl, hb3, ho3, hg3, hz3⟩
         have hLa := lo_trans (Below.drew (Below.refl w2.heap.size w2)) hb3)
      | (go_at_call 14
         refine (spec_NeighborFar_c _ _ _ _ xs _ _ _ _ ys _ (ho3.next hb4).rd (by omega) ho4.rd (by omega)).mono ?_
         rw [hv'.out]
         rintro e w5 ⟨rfl, hb5⟩
         have hLc := lo_trans hLb hb5))
  have hL5 := lo_trans hL2 hLc
  have hA5 := hA2.next hLc
  have hC5 := hC2.next hLc
  have hx5 := hx2.next hLc
  have hy5 := hy2.next hLc
  clear a0 a1 c0 c1 hA2 hC2 hx2 hy2 hLa hLb hLc hb3 hb4 hb5 ho3 ho4 hg3 hg4 hz3 hz4 hL2
  have a0 := hA5.cell 0
  have a1 := hA5.cell 1
  have c0 := hC5.cell 0
  have c1 := hC5.cell 1
  go_wp2_with fail
  refine (toImage_c _ _ _ _ xs _ hx5 (by omega)).mono ?_
  rintro e w6 ⟨g6, rfl, hb6, ho6, hg6, hz6⟩
  have hC6 := hC5.next hb6
  have hA6 := hA5.next hb6
  have hy6 := hy5.next hb6
  have hx6 := hx5.next hb6
  have hL6 := lo_trans hL5 hb6
  clear a0 a1 c0 c1 hA5 hC5 hx5 hy5 hb6 hL5
  have c0 := (hC6.alloc (.cells #[.int .i64 W, .slice (some ⟨g6, 0, none⟩) l l] 27)).cell 0
  have c1 := (hC6.alloc (.cells #[.int .i64 W, .slice (some ⟨g6, 0, none⟩) l l] 27)).cell 1
  have hkP := Blk.new w6 27 #[.int .i64 W, .slice (some ⟨g6, 0, none⟩) l l]
  have hLP := lo_alloc hL6 (.cells #[.int .i64 W, .slice (some ⟨g6, 0, none⟩) l l] 27)
  have hCP := hC6.alloc (.cells #[.int .i64 W, .slice (some ⟨g6, 0, none⟩) l l] 27)
  have hAP := hA6.alloc (.cells #[.int .i64 W, .slice (some ⟨g6, 0, none⟩) l l] 27)
  have hxP := hx6.alloc (.cells #[.int .i64 W, .slice (some ⟨g6, 0, none⟩) l l] 27)
  have hyP := hy6.alloc (.cells #[.int .i64 W, .slice (some ⟨g6, 0, none⟩) l l] 27)
  have hoP := ho6.alloc (.cells #[.int .i64 W, .slice (some ⟨g6, 0, none⟩) l l] 27)
  have hszP : (w6.alloc (.cells #[.int .i64 W, .slice (some ⟨g6, 0, none⟩) l l] 27)).heap.size = w6.heap.size + 1 := by simp
  go_wp2_with fail
  generalize w6.alloc (.cells #[.int .i64 W, .slice (some ⟨g6, 0, none⟩) l l] 27) = wP at hkP hLP hCP hAP hxP hyP hoP c0 c1 hszP ⊢
  refine (toImage_c _ _ _ _ ys _ hyP (by omega)).mono ?_
  rintro e w7 ⟨g7, rfl, hb7, ho7, hg7, hz7⟩
  have hLQ := lo_alloc (lo_trans hLP hb7) (.cells #[.int .i64 V, .slice (some ⟨g7, 0, none⟩) k k] 27)
  have hCQ := (hCP.next hb7).alloc (.cells #[.int .i64 V, .slice (some ⟨g7, 0, none⟩) k k] 27)
  have hAQ := (hAP.next hb7).alloc (.cells #[.int .i64 V, .slice (some ⟨g7, 0, none⟩) k k] 27)
  have hxQ := (hxP.next hb7).alloc (.cells #[.int .i64 V, .slice (some ⟨g7, 0, none⟩) k k] 27)
  have hyQ := (hyP.next hb7).alloc (.cells #[.int .i64 V, .slice (some ⟨g7, 0, none⟩) k k] 27)
  have hoQ := (hoP.next hb7).alloc (.cells #[.int .i64 V, .slice (some ⟨g7, 0, none⟩) k k] 27)
  have hkPQ := (hkP.next hb7).alloc (.cells #[.int .i64 V, .slice (some ⟨g7, 0, none⟩) k k] 27)
  have hkQ := Blk.new w7 27 #[.int .i64 V, .slice (some ⟨g7, 0, none⟩) k k]
  have hpQ := ho7.alloc (.cells #[.int .i64 V, .slice (some ⟨g7, 0, none⟩) k k] 27)
  have p0 := hkPQ.cell 0
  have p1 := hkPQ.cell 1
  clear c0 c1 hkP hLP hCP hAP hxP hyP hoP hb7 ho7 hC6 hA6 hy6 hx6 hL6 ho6
  go_wp2_with fail
  generalize w7.alloc (.cells #[.int .i64 V, .slice (some ⟨g7, 0, none⟩) k k] 27) = wQ at hLQ hCQ hAQ hxQ hyQ hoQ hkPQ hkQ hpQ p0 p1 ⊢
  refine (impl_NeighborFar_c _ _ _ _ xs _ _ _ _ ys _ hoQ.rd (by omega) hpQ.rd (by omega)).mono ?_
  rw [hv'.out]
  rintro e w8 ⟨rfl, hb8⟩
  have hL8 := lo_trans hLQ hb8
  have hC8 := hCQ.next hb8
  have hA8 := hAQ.next hb8
  have hx8 := hxQ.next hb8
  have hy8 := hyQ.next hb8
  have ho8 := hoQ.next hb8
  have hq8 := hpQ.next hb8
  have hP8 := hkPQ.next hb8
  have hQ8 := hkQ.next hb8
  clear hLQ hCQ hAQ hxQ hyQ hoQ hpQ hkPQ hkQ hb8 p0 p1
  have a0 := hA8.cell 0
  have a1 := hA8.cell 1
  have p0 := hP8.cell 0
  have p1 := hP8.cell 1
  go_wp2_with fail
  go_region_held3 (fun w' => w'.cell? ⟨w.heap.size, 0, none⟩ = some (.int .i64 W) ∧ w'.cell? ⟨w.heap.size, 1, none⟩ = some (.slice C l e) ∧ w'.cell? ⟨w6.heap.size, 0, none⟩ = some (.int .i64 W) ∧ w'.cell? ⟨w6.heap.size, 1, none⟩ = some (.slice (some ⟨g6, 0, none⟩) l l))
    (first
      | go_keep
      | exact ⟨(hA8.next hLe).cell 0, (hA8.next hLe).cell 1, (hP8.next hLe).cell 0, (hP8.next hLe).cell 1⟩
      | exact ⟨(hA8.next hLd).cell 0, (hA8.next hLd).cell 1, (hP8.next hLd).cell 0, (hP8.next hLd).cell 1⟩)
    (first
      | (go_at_call 11; refine (toImage_c _ _ _ _ xs _ hx8.drew (by omega)).mono ?_; rintro e w10 ⟨g10, rfl, hb10, ho10, hg10, hz10⟩; have hLd := lo_trans (Below.drew (Below.refl w8.heap.size w8)) hb10)
      | (go_at_call 13; refine (eqImage_t _ _ _ _ _ _ _ xs _ (ho8.next hLd).rd ho10.rd (by omega)).mono ?_; rintro e w11 ⟨rfl, hb11⟩; have hLe := lo_trans hLd hb11))
  have hL11 := lo_trans hL8 hLe
  have hC11 := hC8.next hLe
  have hy11 := hy8.next hLe
  have hq11 := hq8.next hLe
  have hQ11 := hQ8.next hLe
  clear a0 a1 p0 p1 hL8 hC8 hA8 hx8 hy8 ho8 hq8 hP8 hQ8 hLd hLe hb10 hb11 ho10 hg10 hz10
  have a0 := hC11.cell 0
  have a1 := hC11.cell 1
  have p0 := hQ11.cell 0
  have p1 := hQ11.cell 1
  go_wp2_with fail
  go_region_held3 (fun w' => w'.cell? ⟨w.heap.size + 1, 0, none⟩ = some (.int .i64 V) ∧ w'.cell? ⟨w.heap.size + 1, 1, none⟩ = some (.slice D k f) ∧ w'.cell? ⟨w7.heap.size, 0, none⟩ = some (.int .i64 V) ∧ w'.cell? ⟨w7.heap.size, 1, none⟩ = some (.slice (some ⟨g7, 0, none⟩) k k))
    (first
      | go_keep
      | exact ⟨(hC11.next hLe).cell 0, (hC11.next hLe).cell 1, (hQ11.next hLe).cell 0, (hQ11.next hLe).cell 1⟩
      | exact ⟨(hC11.next hLd).cell 0, (hC11.next hLd).cell 1, (hQ11.next hLd).cell 0, (hQ11.next hLd).cell 1⟩)
    (first
      | (go_at_call 11; refine (toImage_c _ _ _ _ ys _ hy11.drew (by omega)).mono ?_; rintro e w12 ⟨g12, rfl, hb12, ho12, hg12, hz12⟩; have hLd := lo_trans (Below.drew (Below.refl w11.heap.size w11)) hb12)
      | (go_at_call 13; refine (eqImage_t _ _ _ _ _ _ _ ys _ (hq11.next hLd).rd ho12.rd (by omega)).mono ?_; rintro e w13 ⟨rfl, hb13⟩; have hLe := lo_trans hLd hb13))
  have hL13 := lo_trans hL11 hLe
  go_wp2
  go_ret
  exact ⟨rfl, hL13⟩
end Go.Proofs.Ytjogfeichnkffaa
