
/- Walks: a line of a script is drawn. -/
import Derived.Test.YteabnljjogiflaaGreatDoorDx
namespace Go.Proofs.YteabnljjogiflaaGreatDoor
open Go.RowKit
set_option maxRecDepth 100000

theorem rdr_alloc {w : World} {lo b p : Nat} (h : Rdr w lo b p) (o : Obj) : Rdr (w.alloc o) lo b p := h.next (lo_alloc (Below.refl _ _) o)

set_option maxHeartbeats 8000000 in
theorem l93Line_c (lo b p : Nat) (m : Nat) (w : World) (h : Rdr w lo b p) (hp : p ≤ 400000) (hm : m ≤ 6) :
    Calls Tryz.prog 30 #[.pointer (some ⟨b, 0, none⟩), .int .i64 (m : Int)] w (StrD w 1000 lo b p 200) := by
  have hbz := h.lt
  go_enter Tryz.func30, Tryz.ntmps30
  go_wp2_with fail
  refine (pick_c lo b p _ _ h (by omega)).mono ?_
  rintro e w1 ⟨x, rfl, _, hg1, hr1⟩
  have hz1 := hg1.size
  clear h
  by_cases s0 : x = 0
  · have s0' : ((x : Int) == 0) = true := by simp; omega
    clear s0
    go_wp2
    go_ret
    exact ⟨[110, 101, 120, 116], p + 1, by decide, rfl, hg1, hr1, by omega⟩
  have s0' : ((x : Int) == 0) = false := by simp; omega
  by_cases s1 : x = 1
  · have s1' : ((x : Int) == 1) = true := by simp; omega
    clear s0 s1
    go_wp2_with fail
    refine (pick_c lo b _ _ _ hr1 (by omega)).mono ?_
    rintro e w2 ⟨k1, rfl, hk1, hg2, hr2⟩
    have hj1 := hk1 (by omega)
    go_wp2_with fail
    refine (l6Dec_s (k1 : Int) (by omega) (by omega) _).mono ?_
    rintro e w3 ⟨d1, hd1, rfl, hb3⟩
    have c1 : ∀ w, (Op.stringOp .add ({ data := #[115, 119, 105, 116, 99, 104, 32] } : ByteArray) (S d1)).run Tryz.prog w = .ok (.string (S ([115, 119, 105, 116, 99, 104, 32] ++ d1))) w := fun w => cat_ok [115, 119, 105, 116, 99, 104, 32] d1 (by simp; omega) w
    obtain ⟨v1, hv1⟩ : ∃ v, Hid ([115, 119, 105, 116, 99, 104, 32] ++ d1 = v) := ⟨_, Lib.hid rfl⟩
    have hl1 : v1.length ≤ 10 := by rw [← hv1.out]; simp; omega
    rw [hv1.out] at c1
    have c2 : ∀ w, (Op.stringOp .add (S v1) ({ data := #[32] } : ByteArray)).run Tryz.prog w = .ok (.string (S (v1 ++ [32]))) w := fun w => cat_ok v1 [32] (by simp; omega) w
    obtain ⟨v2, hv2⟩ : ∃ v, Hid (v1 ++ [32] = v) := ⟨_, Lib.hid rfl⟩
    have hl2 : v2.length ≤ 11 := by rw [← hv2.out]; simp; omega
    rw [hv2.out] at c2
    have hr3 := hr2.next hb3
    go_wp2_with fail
    refine (pick_c lo b _ _ _ hr3 (by omega)).mono ?_
    rintro e w4 ⟨k2, rfl, hk2, hg4, hr4⟩
    have hj2 := hk2 (by omega)
    go_wp2_with fail
    refine (l6Dec_s (1 + (k2 : Int)) (by omega) (by omega) _).mono ?_
    rintro e w5 ⟨d2, hd2, rfl, hb5⟩
    have c3 : ∀ w, (Op.stringOp .add (S v2) (S d2)).run Tryz.prog w = .ok (.string (S (v2 ++ d2))) w := fun w => cat_ok v2 d2 (by omega) w
    obtain ⟨v3, hv3⟩ : ∃ v, Hid (v2 ++ d2 = v) := ⟨_, Lib.hid rfl⟩
    have hl3 : v3.length ≤ 14 := by rw [← hv3.out]; simp; omega
    rw [hv3.out] at c3
    have c4 : ∀ w, (Op.stringOp .add (S v3) ({ data := #[32] } : ByteArray)).run Tryz.prog w = .ok (.string (S (v3 ++ [32]))) w := fun w => cat_ok v3 [32] (by simp; omega) w
    obtain ⟨v4, hv4⟩ : ∃ v, Hid (v3 ++ [32] = v) := ⟨_, Lib.hid rfl⟩
    have hl4 : v4.length ≤ 15 := by rw [← hv4.out]; simp; omega
    rw [hv4.out] at c4
    have hr5 := hr4.next hb5
    go_wp2_with fail
    refine (pick_c lo b _ _ _ hr5 (by omega)).mono ?_
    rintro e w6 ⟨k3, rfl, hk3, hg6, hr6⟩
    have hj3 := hk3 (by omega)
    go_wp2_with fail
    refine (l6Dec_s (k3 : Int) (by omega) (by omega) _).mono ?_
    rintro e w7 ⟨d3, hd3, rfl, hb7⟩
    have c5 : ∀ w, (Op.stringOp .add (S v4) (S d3)).run Tryz.prog w = .ok (.string (S (v4 ++ d3))) w := fun w => cat_ok v4 d3 (by omega) w
    obtain ⟨v5, hv5⟩ : ∃ v, Hid (v4 ++ d3 = v) := ⟨_, Lib.hid rfl⟩
    have hl5 : v5.length ≤ 18 := by rw [← hv5.out]; simp; omega
    rw [hv5.out] at c5
    have c6 : ∀ w, (Op.stringOp .add (S v5) ({ data := #[32] } : ByteArray)).run Tryz.prog w = .ok (.string (S (v5 ++ [32]))) w := fun w => cat_ok v5 [32] (by simp; omega) w
    obtain ⟨v6, hv6⟩ : ∃ v, Hid (v5 ++ [32] = v) := ⟨_, Lib.hid rfl⟩
    have hl6 : v6.length ≤ 19 := by rw [← hv6.out]; simp; omega
    rw [hv6.out] at c6
    have hr7 := hr6.next hb7
    go_wp2_with fail
    refine (pick_c lo b _ _ _ hr7 (by omega)).mono ?_
    rintro e w8 ⟨k4, rfl, hk4, hg8, hr8⟩
    have hj4 := hk4 (by omega)
    go_wp2_with fail
    refine (l6Dec_s (1 + (k4 : Int)) (by omega) (by omega) _).mono ?_
    rintro e w9 ⟨d4, hd4, rfl, hb9⟩
    have c7 : ∀ w, (Op.stringOp .add (S v6) (S d4)).run Tryz.prog w = .ok (.string (S (v6 ++ d4))) w := fun w => cat_ok v6 d4 (by omega) w
    obtain ⟨v7, hv7⟩ : ∃ v, Hid (v6 ++ d4 = v) := ⟨_, Lib.hid rfl⟩
    have hl7 : v7.length ≤ 22 := by rw [← hv7.out]; simp; omega
    rw [hv7.out] at c7
    have hG := grown_trans (grown_trans (grown_trans (grown_trans (grown_trans (grown_trans (grown_trans (grown_trans hg1 hg2) (grown_of_below hb3 _)) hg4) (grown_of_below hb5 _)) hg6) (grown_of_below hb7 _)) hg8) (grown_of_below hb9 _)
    have hR := hr8.next hb9
    clear hk1 hk2 hk3 hk4
    go_wp2
    go_ret
    exact ⟨v7, _, by omega, rfl, hG, hR, by omega⟩
  have s1' : ((x : Int) == 1) = false := by simp; omega
  by_cases s2 : x = 2
  · have s2' : ((x : Int) == 2) = true := by simp; omega
    clear s0 s1 s2
    go_wp2_with fail
    refine (pick_c lo b _ _ _ hr1 (by omega)).mono ?_
    rintro e w2 ⟨k1, rfl, hk1, hg2, hr2⟩
    have hj1 := hk1 (by omega)
    go_wp2_with fail
    refine (l6Dec_s (k1 : Int) (by omega) (by omega) _).mono ?_
    rintro e w3 ⟨d1, hd1, rfl, hb3⟩
    have c1 : ∀ w, (Op.stringOp .add ({ data := #[108, 105, 110, 101, 115, 32] } : ByteArray) (S d1)).run Tryz.prog w = .ok (.string (S ([108, 105, 110, 101, 115, 32] ++ d1))) w := fun w => cat_ok [108, 105, 110, 101, 115, 32] d1 (by simp; omega) w
    obtain ⟨v1, hv1⟩ : ∃ v, Hid ([108, 105, 110, 101, 115, 32] ++ d1 = v) := ⟨_, Lib.hid rfl⟩
    have hl1 : v1.length ≤ 10 := by rw [← hv1.out]; simp; omega
    rw [hv1.out] at c1
    clear hk1
    go_wp2
    go_ret
    exact ⟨v1, _, by omega, rfl, grown_trans (grown_trans hg1 hg2) (grown_of_below hb3 _), hr2.next hb3, by omega⟩
  have s2' : ((x : Int) == 2) = false := by simp; omega
  by_cases s3 : x = 3
  · have s3' : ((x : Int) == 3) = true := by simp; omega
    clear s0 s1 s2 s3
    go_wp2_with fail
    refine (l91Sums_b lo b _ _ hr1 (by omega)).mono ?_
    rintro e w2 ⟨R, n, c, Q, m2, d, q, xs, ys, rfl, hn1, hn6, hm1, hm6, hxl, hyl, hBx, hBy, _, hg2, hr2, hq, hx, hy⟩
    have hz2 := hg2.size
    have hW := Blk.new w2 9 (strs [[98, 117, 105, 108, 100, 32], [112, 114, 111, 111, 102, 32]])
    have hz2b : b < w2.heap.size := by omega
    have hof := of_c lo b q w2.heap.size 2 [[98, 117, 105, 108, 100, 32], [112, 114, 111, 111, 102, 32]] _ (rdr_alloc hr2 _) (by omega) hW (by omega) rfl (by omega) (by omega) (by decide)
    go_wp2_with fail
    refine hof.mono ?_
    rintro e w3 ⟨t, q2, htl, rfl, hg3, hr3, hq2⟩
    have hga := grown_alloc (w := w2) (.cells (strs [[98, 117, 105, 108, 100, 32], [112, 114, 111, 111, 102, 32]]) 9) (some b)
    have hx3 := (hBx.next (lo_alloc (Below.refl _ _) (.cells (strs [[98, 117, 105, 108, 100, 32], [112, 114, 111, 111, 102, 32]]) 9))).kept_lo hg3 (by rintro _ ⟨⟩; omega)
    have hy3 := (hBy.next (lo_alloc (Below.refl _ _) (.cells (strs [[98, 117, 105, 108, 100, 32], [112, 114, 111, 111, 102, 32]]) 9))).kept_lo hg3 (by rintro _ ⟨⟩; omega)
    have hxo := hx3.own
    have hyo := hy3.own
    rw [hxl] at hxo
    rw [hyl] at hyo
    clear hof hW hBx hBy hx3 hy3
    go_wp2_with fail
    refine (l93Digits_c R n c xs _ hxo.rd hn6 hx.out).mono ?_
    rintro e w4 ⟨t1, ht1, rfl, hb4⟩
    have c1 : ∀ w, (Op.stringOp .add (S t) (S t1)).run Tryz.prog w = .ok (.string (S (t ++ t1))) w := fun w => cat_ok t t1 (by omega) w
    obtain ⟨v1, hv1⟩ : ∃ v, Hid (t ++ t1 = v) := ⟨_, Lib.hid rfl⟩
    have hl1 : v1.length ≤ 40 := by rw [← hv1.out]; simp; omega
    rw [hv1.out] at c1
    have c2 : ∀ w, (Op.stringOp .add (S v1) ({ data := #[32] } : ByteArray)).run Tryz.prog w = .ok (.string (S (v1 ++ [32]))) w := fun w => cat_ok v1 [32] (by simp; omega) w
    obtain ⟨v2, hv2⟩ : ∃ v, Hid (v1 ++ [32] = v) := ⟨_, Lib.hid rfl⟩
    have hl2 : v2.length ≤ 41 := by rw [← hv2.out]; simp; omega
    rw [hv2.out] at c2
    go_wp2_with fail
    refine (l93Digits_c Q m2 d ys _ (hyo.next hb4).rd hm6 hy.out).mono ?_
    rintro e w5 ⟨t2, ht2, rfl, hb5⟩
    have c3 : ∀ w, (Op.stringOp .add (S v2) (S t2)).run Tryz.prog w = .ok (.string (S (v2 ++ t2))) w := fun w => cat_ok v2 t2 (by omega) w
    obtain ⟨v3, hv3⟩ : ∃ v, Hid (v2 ++ t2 = v) := ⟨_, Lib.hid rfl⟩
    have hl3 : v3.length ≤ 70 := by rw [← hv3.out]; simp; omega
    rw [hv3.out] at c3
    go_wp2
    go_ret
    exact ⟨v3, q2, by omega, rfl, grown_trans (grown_trans (grown_trans (grown_trans (grown_trans hg1 hg2) hga) hg3) (grown_of_below hb4 _)) (grown_of_below hb5 _), (hr3.next hb4).next hb5, by omega⟩
  have s3' : ((x : Int) == 3) = false := by simp; omega
  by_cases s4 : x = 4
  · have s4' : ((x : Int) == 4) = true := by simp; omega
    clear s0 s1 s2 s3 s4
    go_wp2
    go_loopw [7, 8] (fun v j wr => ∃ (k q : Nat) (t : Bs), k ≤ m ∧ j = .int .i64 k ∧ v = .string (S t) ∧ t.length ≤ 20 * k ∧ w.grownBy wr (some b) ∧ Rdr wr lo b q ∧ q ≤ p + 1 + k) (fun _ j _ => m - (intOf j).toNat)
    case atStart => exact ⟨0, p + 1, [], Nat.zero_le _, rfl, rfl, by simp, hg1, hr1, by omega⟩
    case round =>
      clear hg1 hr1 hz1
      obtain ⟨k, q, t, hk, rfl, rfl, ht, hG, hR, hq⟩ := hrel
      have hzr := hG.size
      by_cases hlt : k < m
      · have hW := Blk.new wr 9 (strs [[35], [46]])
        have hof := of_c lo b q wr.heap.size 2 [[35], [46]] _ (rdr_alloc hR _) (by omega) hW (by omega) rfl (by omega) (by omega) (by decide)
        have hga := grown_alloc (w := wr) (.cells (strs [[35], [46]]) 9) (some b)
        go_wp2_with fail
        refine hof.mono ?_
        rintro e w3 ⟨u, q2, hul, rfl, hg3, hr3, hq2⟩
        have c1 : ∀ w, (Op.stringOp .add (S t) (S u)).run Tryz.prog w = .ok (.string (S (t ++ u))) w := fun w => cat_ok t u (by omega) w
        obtain ⟨v1, hv1⟩ : ∃ v, Hid (t ++ u = v) := ⟨_, Lib.hid rfl⟩
        have hl1 : v1.length ≤ 20 * (k + 1) := by rw [← hv1.out]; simp; omega
        rw [hv1.out] at c1
        have hG3 := grown_trans (grown_trans hG hga) hg3
        clear hof hW hG hR hga hg3
        go_wp2
        go_roundw
        case rel => exact ⟨k + 1, q2, v1, by omega, by go_num, rfl, hl1, hG3, hr3, by omega⟩
        case measure => simp [intOf]; omega
      · have c1 : ∀ w, (Op.stringOp .add ({ data := #[114, 111, 119, 32] } : ByteArray) (S t)).run Tryz.prog w = .ok (.string (S ([114, 111, 119, 32] ++ t))) w := fun w => cat_ok [114, 111, 119, 32] t (by simp; omega) w
        obtain ⟨v1, hv1⟩ : ∃ v, Hid ([114, 111, 119, 32] ++ t = v) := ⟨_, Lib.hid rfl⟩
        have hl1 : v1.length ≤ 200 := by rw [← hv1.out]; simp; omega
        rw [hv1.out] at c1
        go_wp2
        go_ret
        exact ⟨v1, q, by omega, rfl, hG, hR, by omega⟩
  have s4' : ((x : Int) == 4) = false := by simp; omega
  by_cases s5 : x = 5
  · have s5' : ((x : Int) == 5) = true := by simp; omega
    clear s0 s1 s2 s3 s4 s5
    have hW := Blk.new w1 9 (strs ([[], [122, 122, 122], [114, 111, 119], [114, 111, 119, 32, 35, 120], [114, 111, 119, 32, 35, 35, 35, 35, 35, 35, 35], [108, 105, 110, 101, 115, 32, 120], [98, 117, 105, 108, 100, 32, 49, 49, 32, 49], [115, 119, 105, 116, 99, 104, 32, 48, 32, 49, 32, 48], [99, 108, 101, 97, 114], [112, 114, 111, 111, 102, 32, 50, 50, 32, 49, 49], [99, 108, 101, 97, 114, 32, 49]] : List Bs))
    have hof := of_c lo b (p + 1) w1.heap.size 11 ([[], [122, 122, 122], [114, 111, 119], [114, 111, 119, 32, 35, 120], [114, 111, 119, 32, 35, 35, 35, 35, 35, 35, 35], [108, 105, 110, 101, 115, 32, 120], [98, 117, 105, 108, 100, 32, 49, 49, 32, 49], [115, 119, 105, 116, 99, 104, 32, 48, 32, 49, 32, 48], [99, 108, 101, 97, 114], [112, 114, 111, 111, 102, 32, 50, 50, 32, 49, 49], [99, 108, 101, 97, 114, 32, 49]] : List Bs) _ (rdr_alloc hr1 _) (by omega) hW (by omega) rfl (by omega) (by omega) (by decide)
    have hga := grown_alloc (w := w1) (.cells (strs ([[], [122, 122, 122], [114, 111, 119], [114, 111, 119, 32, 35, 120], [114, 111, 119, 32, 35, 35, 35, 35, 35, 35, 35], [108, 105, 110, 101, 115, 32, 120], [98, 117, 105, 108, 100, 32, 49, 49, 32, 49], [115, 119, 105, 116, 99, 104, 32, 48, 32, 49, 32, 48], [99, 108, 101, 97, 114], [112, 114, 111, 111, 102, 32, 50, 50, 32, 49, 49], [99, 108, 101, 97, 114, 32, 49]] : List Bs)) 9) (some b)
    go_wp2_with fail
    refine hof.mono ?_
    rintro e w3 ⟨u, q2, hul, rfl, hg3, hr3, hq2⟩
    clear hof hW
    go_wp2
    go_ret
    exact ⟨u, q2, by omega, rfl, grown_trans (grown_trans hg1 hga) hg3, hr3, by omega⟩
  · have s5' : ((x : Int) == 5) = false := by simp; omega
    clear s0 s1 s2 s3 s4 s5
    have hW := Blk.new w1 9 (strs [[115, 104, 111, 119], [115, 117, 109, 115], [117, 110, 105, 113, 117, 101]])
    have hof := of_c lo b (p + 1) w1.heap.size 3 [[115, 104, 111, 119], [115, 117, 109, 115], [117, 110, 105, 113, 117, 101]] _ (rdr_alloc hr1 _) (by omega) hW (by omega) rfl (by omega) (by omega) (by decide)
    have hga := grown_alloc (w := w1) (.cells (strs [[115, 104, 111, 119], [115, 117, 109, 115], [117, 110, 105, 113, 117, 101]]) 9) (some b)
    go_wp2_with fail
    refine hof.mono ?_
    rintro e w3 ⟨u, q2, hul, rfl, hg3, hr3, hq2⟩
    clear hof hW
    go_wp2
    go_ret
    exact ⟨u, q2, by omega, rfl, grown_trans (grown_trans hg1 hga) hg3, hr3, by omega⟩
end Go.Proofs.YteabnljjogiflaaGreatDoor
