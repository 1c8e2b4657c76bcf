/- Plain facts and walks that the law's proof uses; each says its own conditions. -/
import Derived.Test.YteabnljjogiflaaGreatDoorZ32
import Derived.Test.YteabnljjogiflaaGreatDoorZ24
import Derived.Test.YteabnljjogiflaaGreatDoorZ19
import Derived.Test.YteabnljjogiflaaGreatDoorZ13
import Derived.Deep.RegionHeld3
import Derived.Test.YteabnljjogiflaaGreatDoorZ20
import Derived.Test.YteabnljjogiflaaGreatDoorZ16
import Derived.Test.YteabnljjogiflaaGreatDoorZ18
import Derived.Test.YteabnljjogiflaaGreatDoorZ28
-- Walks: the questions proof, unique, sums (the reference's way).
namespace Go.Proofs.YteabnljjogiflaaGreatDoor
open Go.RowKit
set_option maxRecDepth 100000

theorem pOf_lt' {r c : List Int} {t : Nat} (h : pOf r c = some t) : t < 7 := List.mem_range.1 (List.mem_of_find?_eq_some h)
theorem rsum_100' {xs : List Int} : ∀ x ∈ rsum xs, 0 ≤ x ∧ x < 100 := by
  intro x hx
  obtain ⟨k, hk, rfl⟩ := List.mem_iff_getElem.1 hx
  have := rsum_bd xs (k := k) (by rw [rsum_len] at hk; exact hk)
  rw [List.getElem?_eq_getElem hk, Option.getD_some] at this
  omega
theorem csum_100' {m : Nat} {xs : List Int} (h : xs.length ≤ 6) : ∀ x ∈ csum m xs, 0 ≤ x ∧ x < 100 := by
  intro x hx
  have := csum_bd h x hx
  omega
set_option maxHeartbeats 1000000 in
theorem l51Proof_c (A B : Option Addr) (n m c d : Nat) (xs ys : List Int) (w : World) (hr : Rd w A n xs) (hq : Rd w B m ys) (hn : n ≤ 1048576) (hm : m ≤ 1048576) (s : Ig) :
    Calls Tryz.prog 37 #[.slice A n c, .slice B m d] w fun e w' => e = .returned (.string (S (askO s ((pOf xs ys).map dec2)).2)) ∧ Below w.heap.size w w' := by
  cases ho : pOf xs ys with
  | none =>
    have hv := Lib.hid (show pVal (pOf xs ys) = .tuple #[.int .i64 0, .bool false] by rw [ho]; rfl)
    clear ho
    go_enter Tryz.func37, Tryz.ntmps37
    go_wp2_with fail
    refine (spec_ProofOf_c A B n m c d xs ys _ hr hq hn hm).mono ?_
    rw [hv.out]
    rintro e w1 ⟨rfl, hb⟩
    go_wp2
    go_ret
    exact ⟨rfl, hb⟩
  | some t =>
    have ht := pOf_lt' ho
    have hv := Lib.hid (show pVal (pOf xs ys) = .tuple #[.int .i64 (t : Int), .bool true] by rw [ho]; rfl)
    clear ho
    have hT := Lib.hid (show (askO s ((some t).map dec2)).2 = dec2 t ++ [10] from rfl)
    rw [hT.out]
    have hl := dec2_len t
    obtain ⟨x, hx⟩ : ∃ x, Hid (dec2 t = x) := ⟨_, Lib.hid rfl⟩
    rw [hx.out] at hl ⊢
    have e1 : ∀ w, (Op.stringOp .add (S x) ({ data := #[10] } : ByteArray)).run Tryz.prog w = .ok (.string (S (x ++ [10]))) w := fun w => cat_ok x [10] (by simp; omega) w
    go_enter Tryz.func37, Tryz.ntmps37
    go_wp2_with fail
    refine (spec_ProofOf_c A B n m c d xs ys _ hr hq hn hm).mono ?_
    rw [hv.out]
    rintro e w1 ⟨rfl, hb⟩
    go_wp2_with fail
    refine (l6Dec_c t (by omega) _).mono ?_
    rw [hx.out]
    rintro e w2 ⟨rfl, hb2⟩
    clear hT
    go_wp2
    go_ret
    exact ⟨rfl, lo_trans hb hb2⟩
set_option maxHeartbeats 1000000 in
theorem l51Unique_c (W : Int) (A : Option Addr) (n c : Nat) (xs : List Int) (w : World) (hr : Rd w A n xs) (hn : n ≤ 1000) :
    Calls Tryz.prog 40 #[.agg #[.int .i64 W, .slice A n c]] w fun e w' => e = .returned (.string (S ((if uniqB W xs then tYes else tSeveral) ++ [10]))) ∧ Below w.heap.size w w' := by
  have hP := Blk.new w 29 #[.int .i64 W, .slice A n c]
  have hB0 := lo_alloc (Below.refl w.heap.size w) (.cells #[.int .i64 W, .slice A n c] 29)
  have p0 := hP.cell 0
  have p1 := hP.cell 1
  have hR := hr.next hB0
  obtain ⟨b, hb⟩ : ∃ b, Hid (uniqB W xs = b) := ⟨_, Lib.hid rfl⟩
  rw [hb.out]
  cases b
  all_goals
    go_enter Tryz.func40, Tryz.ntmps40
    go_wp2_with fail
    refine (spec_ImageUnique_c W A n c xs _ hR (by omega)).mono ?_
    rw [hb.out]
    rintro e w1 ⟨rfl, hb1⟩
    go_wp2
    go_ret
    exact ⟨rfl, lo_trans hB0 hb1⟩

set_option maxHeartbeats 4000000 in
theorem l51Sums_c (m n c : Nat) (A : Option Addr) (xs : List Int) (w : World) (hr : Rd w A n xs) (hk : okB (m : Int) xs = true) :
    Calls Tryz.prog 39 #[.agg #[.int .i64 (m : Int), .slice A n c]] w fun e w' => e = .returned (.string (S (tRowsW ++ decs (rsum xs) ++ tColsW ++ decs (csum m xs) ++ [10]))) ∧ Below w.heap.size w w' := by
  have hbd := okB_bd hk
  have hxl := hr.1
  rw [hxl] at hbd
  have hP := Blk.new w 29 #[.int .i64 (m : Int), .slice A n c]
  have hB0 := lo_alloc (Below.refl w.heap.size w) (.cells #[.int .i64 (m : Int), .slice A n c] 29)
  have hR := hr.next hB0
  have hk' := Lib.hid hk
  obtain ⟨d1, hd1⟩ : ∃ d, Hid (tRowsW ++ decs (rsum xs) = d) := ⟨_, Lib.hid rfl⟩
  obtain ⟨d2, hd2⟩ : ∃ d, Hid (tColsW ++ decs (csum m xs) = d) := ⟨_, Lib.hid rfl⟩
  have hl1 : d1.length ≤ 40 := by
    have := decs_len (rsum xs)
    rw [rsum_len] at this
    rw [← hd1.out]; simp [tRowsW]; omega
  have hl2 : d2.length ≤ 40 := by
    have := decs_len (csum m xs)
    rw [csum_len] at this
    rw [← hd2.out]; simp [tColsW]; omega
  have hT := Lib.hid (show tRowsW ++ decs (rsum xs) ++ tColsW ++ decs (csum m xs) ++ [10] = (d1 ++ d2) ++ [10] by rw [← hd1.out, ← hd2.out]; simp)
  rw [hT.out]
  obtain ⟨t, ht⟩ : ∃ t, Hid ((d1 ++ d2) ++ [10] = t) := ⟨_, Lib.hid rfl⟩
  obtain ⟨v, hv⟩ : ∃ v, Hid (d1 ++ d2 = v) := ⟨_, Lib.hid rfl⟩
  have e1 : ∀ w, (Op.stringOp .add (S d1) (S d2)).run Tryz.prog w = .ok (.string (S v)) w := fun w => by
    rw [← hv.out]
    exact cat_ok d1 d2 (by omega) w
  have e2 : ∀ w, (Op.stringOp .add (S v) ({ data := #[10] } : ByteArray)).run Tryz.prog w = .ok (.string (S t)) w := fun w => by
    rw [← ht.out, hv.out]
    exact cat_ok v [10] (by rw [← hv.out]; simp; omega) w
  rw [ht.out]
  have h100 := Lib.hid (rsum_100' (xs := xs))
  have h101 := Lib.hid (csum_100' (m := m) (xs := xs) (by omega))
  have hm6 : m ≤ 100000 := by omega
  clear hk
  obtain ⟨w2, hw2⟩ : ∃ w2, w2 = w.alloc (.cells #[.int .i64 (m : Int), .slice A n c] 29) := ⟨_, rfl⟩
  rw [← hw2] at hP hB0 hR
  have hPd := hP.drew
  have hRd := hR.drew
  have hLr := Below.refl w2.drew.heap.size w2.drew
  have hBd : Below w.heap.size w w2.drew := Below.drew hB0
  go_enter Tryz.func39, Tryz.ntmps39
  go_wp2
  rw [← hw2]
  clear hw2
  go_region_held3 (fun w' => w'.cell? ⟨w.heap.size, 0, none⟩ = some (.int .i64 (m : Int)) ∧ w'.cell? ⟨w.heap.size, 1, none⟩ = some (.slice A n c))
    (first
      | exact ⟨(hPd.next hLr).cell 0, (hPd.next hLr).cell 1⟩
      | fail)
    (first
      | (go_at_call 79
         refine (spec_RowSums_x A n c m xs _ (hRd.next hLr) hk'.out).mono ?_
         rintro e w3 ⟨R1, c1, rfl, hO1, hb1⟩
         have hLr := lo_trans hLr hb1)
      | (go_at_call 80
         refine (spec_ColSums_x A n c m xs _ (hRd.next hLr) hk'.out).mono ?_
         rintro e w4 ⟨R2, c2, rfl, hO2, hb2⟩
         have hLr := lo_trans hLr hb2)
      | (go_at_call 83
         first
          | (have hmark := hO2
             clear hmark
             refine (l51Join_c _ _ _ (csum m xs) tColsW _ hO2.rd hm6 (by decide) h101.out).mono ?_
             rw [hd2.out]
             rintro e w6 ⟨rfl, hb4⟩
             have hLr := lo_trans hLr hb4)
          | (refine (l51Join_c _ _ _ (rsum xs) tRowsW _ hO1.rd (by omega) (by decide) h100.out).mono ?_
             rw [hd1.out]
             rintro e w5 ⟨rfl, hb3⟩
             have hLr := lo_trans hLr hb3)))
  go_wp2
  go_ret
  exact ⟨rfl, lo_trans hBd hLr⟩
end Go.Proofs.YteabnljjogiflaaGreatDoor

-- Walks: lines of a direction (the reference's way).
namespace Go.Proofs.YteabnljjogiflaaGreatDoor
open Go.RowKit
set_option maxRecDepth 100000

set_option maxHeartbeats 1000000 in
theorem l21Ok_c (d : Int) (w : World) : Calls Tryz.prog 85 #[.int .i64 d] w fun e w' => e = .returned (.bool (dirB d)) ∧ w = w' := by
  have hT := Lib.hid (show (decide ((0 : Int) ≤ d) && decide (d ≤ 7)) = dirB d by rw [dirB]; congr 1; rw [decide_eq_decide]; omega)
  go_enter Tryz.func85, Tryz.ntmps85
  go_wp2_with fail
  refine (l6In_c _ _ _ _).mono ?_
  rw [hT.out]
  rintro e w1 ⟨rfl, rfl⟩
  go_wp2
  go_ret
  exact ⟨rfl, rfl⟩
set_option maxHeartbeats 2000000 in
theorem l21X_c (d : Nat) (hd : d < 8) (w : World) : Calls Tryz.prog 164 #[.int .i64 (d : Int)] w fun e w' => e = .returned (.int .i64 (stpX d)) ∧ Below w.heap.size w w' := by
  have hB := Blk.new w 3 #[.int .i64 1, .int .i64 0, .int .i64 1, .int .i64 1, .int .i64 2, .int .i64 1, .int .i64 2, .int .i64 1]
  have hL := lo_alloc (Below.refl w.heap.size w) (.cells #[.int .i64 1, .int .i64 0, .int .i64 1, .int .i64 1, .int .i64 2, .int .i64 1, .int .i64 2, .int .i64 1] 3)
  have hc : (w.alloc (.cells #[.int .i64 1, .int .i64 0, .int .i64 1, .int .i64 1, .int .i64 2, .int .i64 1, .int .i64 2, .int .i64 1] 3)).cell? ⟨w.heap.size, d, none⟩ = some (.int .i64 (stpX d)) := by
    rw [hB.cell]
    match d, hd with
    | 0, _ => rfl
    | 1, _ => rfl
    | 2, _ => rfl
    | 3, _ => rfl
    | 4, _ => rfl
    | 5, _ => rfl
    | 6, _ => rfl
    | 7, _ => rfl
  go_enter Tryz.func164, Tryz.ntmps164
  go_wp2
  go_ret
  exact ⟨rfl, hL⟩
set_option maxHeartbeats 2000000 in
theorem l21Y_c (d : Nat) (hd : d < 8) (w : World) : Calls Tryz.prog 165 #[.int .i64 (d : Int)] w fun e w' => e = .returned (.int .i64 (stpY d)) ∧ Below w.heap.size w w' := by
  have hB := Blk.new w 3 #[.int .i64 0, .int .i64 1, .int .i64 1, .int .i64 (-1), .int .i64 1, .int .i64 2, .int .i64 (-1), .int .i64 (-2)]
  have hL := lo_alloc (Below.refl w.heap.size w) (.cells #[.int .i64 0, .int .i64 1, .int .i64 1, .int .i64 (-1), .int .i64 1, .int .i64 2, .int .i64 (-1), .int .i64 (-2)] 3)
  have hc : (w.alloc (.cells #[.int .i64 0, .int .i64 1, .int .i64 1, .int .i64 (-1), .int .i64 1, .int .i64 2, .int .i64 (-1), .int .i64 (-2)] 3)).cell? ⟨w.heap.size, d, none⟩ = some (.int .i64 (stpY d)) := by
    rw [hB.cell]
    match d, hd with
    | 0, _ => rfl
    | 1, _ => rfl
    | 2, _ => rfl
    | 3, _ => rfl
    | 4, _ => rfl
    | 5, _ => rfl
    | 6, _ => rfl
    | 7, _ => rfl
  go_enter Tryz.func165, Tryz.ntmps165
  go_wp2
  go_ret
  exact ⟨rfl, hL⟩

theorem stp_ok : ((List.range 8).all fun d => (List.range 10).all fun i => decide (-100 ≤ stpX d * (i : Int)) && decide (stpX d * (i : Int) ≤ 100) && decide (-100 ≤ stpY d * (i : Int)) && decide (stpY d * (i : Int) ≤ 100)) = true := by decide +kernel
theorem stp_in {d i : Nat} (hd : d < 8) (hi : i < 10) : -100 ≤ stpX d * (i : Int) ∧ stpX d * (i : Int) ≤ 100 ∧ -100 ≤ stpY d * (i : Int) ∧ stpY d * (i : Int) ≤ 100 := by
  have h1 := List.all_eq_true.1 stp_ok d (List.mem_range.2 hd)
  have h2 := List.all_eq_true.1 h1 i (List.mem_range.2 hi)
  simp only [Bool.and_eq_true, decide_eq_true_eq, and_assoc] at h2
  exact h2
set_option maxHeartbeats 2000000 in
theorem l21Line_c (d i j : Nat) (w : World) (hd : d < 8) (hi : i < 10) (hj : j < 10) :
    Calls Tryz.prog 126 #[.int .i64 (d : Int), .int .i64 (i : Int), .int .i64 (j : Int)] w fun e w' => e = .returned (.int .i64 (lnD d i j)) ∧ Below w.heap.size w w' := by
  obtain ⟨a1, a2, _, _⟩ := stp_in hd hi
  obtain ⟨_, _, b3, b4⟩ := stp_in hd hj
  obtain ⟨X, hX⟩ : ∃ X, Hid (stpX d = X) := ⟨_, Lib.hid rfl⟩
  obtain ⟨Y, hY⟩ : ∃ Y, Hid (stpY d = Y) := ⟨_, Lib.hid rfl⟩
  have hT := Lib.hid (show lnD d i j = X * (i : Int) - Y * (j : Int) by rw [← hX.out, ← hY.out]; rfl)
  rw [hX.out] at a1 a2
  rw [hY.out] at b3 b4
  rw [hT.out]
  go_enter Tryz.func126, Tryz.ntmps126
  go_wp2_with fail
  refine (l21X_c d hd _).mono ?_
  rw [hX.out]
  rintro e w1 ⟨rfl, hb1⟩
  go_wp2_with fail
  refine (l21Y_c d hd _).mono ?_
  rw [hY.out]
  rintro e w2 ⟨rfl, hb2⟩
  go_wp2
  go_ret
  exact ⟨rfl, lo_trans hb1 hb2⟩

theorem sIte_min (x y : Int) : (if y < x then y else x) = min x y := by rw [Int.min_def]; split <;> split <;> omega
theorem sIte_max (x y : Int) : (if x < y then y else x) = max x y := by rw [Int.max_def]; split <;> split <;> omega
theorem sMin4 (a b c d : Int) (w : World) : (Builtin.min_ #[3, 3, 3, 3] 3 #[.int .i64 a, .int .i64 b, .int .i64 c, .int .i64 d]).run Tryz.prog w = .ok (.int .i64 (min (min (min a b) c) d)) w := by
  simp [Builtin.min_, Builtin.min2, ← sIte_min]
theorem sMax4 (a b c d : Int) (w : World) : (Builtin.max_ #[3, 3, 3, 3] 3 #[.int .i64 a, .int .i64 b, .int .i64 c, .int .i64 d]).run Tryz.prog w = .ok (.int .i64 (max (max (max a b) c) d)) w := by
  simp [Builtin.max_, Builtin.max2, ← sIte_max]
set_option maxHeartbeats 4000000 in
theorem DirLines_c (d h m : Nat) (w : World) (hd : d < 8) (hh : 1 ≤ h ∧ h ≤ 6) (hm : 1 ≤ m ∧ m ≤ 6) :
    Calls Tryz.prog 125 #[.int .i64 (d : Int), .int .i64 (h : Int), .int .i64 (m : Int)] w fun e w' => e = .returned (.tuple #[.int .i64 (loD d h m), .int .i64 (hiD d h m), .bool true]) ∧ Below w.heap.size w w' := by
  have e1 : (h : Int) - 1 = ((h - 1 : Nat) : Int) := by omega
  have e2 : (m : Int) - 1 = ((m - 1 : Nat) : Int) := by omega
  have hlo := Lib.hid (show loD d h m = min (min (min 0 (lnD d (h - 1) 0)) (lnD d 0 (m - 1))) (lnD d (h - 1) (m - 1)) from rfl)
  have hhi := Lib.hid (show hiD d h m = max (max (max 0 (lnD d (h - 1) 0)) (lnD d 0 (m - 1))) (lnD d (h - 1) (m - 1)) from rfl)
  have g0 := Lib.hid (show dirB (d : Int) = true by simp [dirB]; omega)
  have g1 := Lib.hid (show (decide ((1 : Int) ≤ (h : Int)) && decide ((h : Int) ≤ 6)) = true by simp; omega)
  have g2 := Lib.hid (show (decide ((1 : Int) ≤ (m : Int)) && decide ((m : Int) ≤ 6)) = true by simp; omega)
  go_enter Tryz.func125, Tryz.ntmps125
  go_wp2_with fail
  refine (l21Ok_c _ _).mono ?_; rw [g0.out]; rintro e w0 ⟨rfl, rfl⟩
  go_wp2_with fail
  refine (l6In_c _ _ _ _).mono ?_; rw [g1.out]; rintro e w0 ⟨rfl, rfl⟩
  go_wp2_with fail
  refine (l6In_c _ _ _ _).mono ?_; rw [g2.out]; rintro e w0 ⟨rfl, rfl⟩
  go_wp2_with fail
  refine (l21Line_c d 0 (m - 1) _ hd (by omega) (by omega)).mono ?_
  generalize lnD d 0 (m - 1) = b at hlo hhi
  rintro e w1 ⟨rfl, hb1⟩
  go_wp2_with fail
  refine (l21Line_c d (h - 1) 0 _ hd (by omega) (by omega)).mono ?_
  generalize lnD d (h - 1) 0 = a at hlo hhi
  rintro e w2 ⟨rfl, hb2⟩
  have hb12 := lo_trans hb1 hb2
  go_wp2_with fail
  refine (l21Line_c d (h - 1) (m - 1) _ hd (by omega) (by omega)).mono ?_
  generalize lnD d (h - 1) (m - 1) = c at hlo hhi
  rintro e w3 ⟨rfl, hb3⟩
  have hmin := sMin4 0 b a c
  have hmax := sMax4 0 b a c
  rw [show min (min (min 0 b) a) c = loD d h m by rw [hlo.out]; omega] at hmin
  rw [show max (max (max 0 b) a) c = hiD d h m by rw [hhi.out]; omega] at hmax
  go_wp2
  exact bodyPost_ret (v := .tuple #[.int .i64 (loD d h m), .int .i64 (hiD d h m), .bool true]) (by simp [results, Tryz.results125, go_sem]) rfl ⟨rfl, lo_trans hb12 hb3⟩
end Go.Proofs.YteabnljjogiflaaGreatDoor

-- Walks: line sums (the reference's way).
namespace Go.Proofs.YteabnljjogiflaaGreatDoor
open Go.RowKit
set_option maxRecDepth 100000

theorem b01_b1 (b : Bool) : b01 b = ((b1 b : Nat) : Int) := by cases b <;> rfl
set_option maxHeartbeats 8000000 in
theorem spec_DirSums_c (d m n c : Nat) (A : Option Addr) (xs : List Int) (w : World) (hr : Rd w A n xs) (hk : okB (m : Int) xs = true) (hd8 : d < 8) :
    Calls Tryz.prog 86 #[.agg #[.int .i64 (m : Int), .slice A n c], .int .i64 (d : Int)] w fun e w' => ∃ (R : Option Addr) (r c' : Nat), e = .returned (.slice R r c') ∧ Own w' w.heap.size R r (dirS d m xs) ∧ Below w.heap.size w w' := by
  have hbd := okB_bd hk
  rw [hr.1] at hbd
  have hxl := Lib.hid hr.1
  have hh : 1 ≤ n ∧ n ≤ 6 := by omega
  have hm : 1 ≤ m ∧ m ≤ 6 := by omega
  have hd' := Lib.hid (show dirB (d : Int) = true by simp [dirB]; omega)
  have hfin := Lib.hid (show dirS d m xs = dst xs d n m n 0 by rw [dirS, hr.1])
  have hN := lnK_lt hd8 hh.2 hm.2 (i := 0) (j := 0) (by omega) (by omega)
  obtain ⟨l1, l2, l3, l4, l5, l6⟩ := ln_range d hd8 n (by omega) m (by omega) 0 (by omega) 0 (by omega)
  have hNe : hiD d n m - loD d n m + 1 = ((nD d n m : Nat) : Int) := by unfold nD; omega
  have hK := Lib.hid (fun i j (hi : i < n) (hj : j < m) => lnK_lt (i := i) (j := j) hd8 hh.2 hm.2 hi hj)
  have hS := Lib.hid (fun i j (hi : i < n) (hj : j < m) => dst_set (xs := xs) (i := i) (j := j) hd8 hh.2 hm.2 hi hj)
  have hz := Lib.hid (dst_zero xs d n m)
  have hlen := Lib.hid (fun i j => dst_len xs d n m i j)
  have hnx := Lib.hid (fun i => dst_next xs d n m i)
  have hval := Lib.hid (fun i j k (hk : k < nD d n m) => (dst_get (xs := xs) (d := d) (h := n) (m := m) (i := i) (j := j) hk))
  have hlines := fun w => DirLines_c d n m w hd8 hh hm
  clear l1 l2
  generalize loD d n m = lo at hNe hK l3 l4 hval hlines
  generalize hiD d n m = hi at hNe l5 l6 hlines
  obtain ⟨N, hNN⟩ : ∃ N, Hid (nD d n m = N) := ⟨_, Lib.hid rfl⟩
  rw [hNN.out] at hNe hK hval hlen hz hN
  obtain ⟨hNpos, _, hN35⟩ := hN
  have hk' := Lib.hid hk
  clear hk
  have hP := (Blk.new w 29 #[.int .i64 (m : Int), .slice A n c]).alloc (.cells #[] 3)
  have hB0 := lo_alloc (lo_alloc (Below.refl w.heap.size w) (.cells #[.int .i64 (m : Int), .slice A n c] 29)) (.cells #[] 3)
  have hE : Buf ((w.alloc (.cells #[.int .i64 (m : Int), .slice A n c] 29)).alloc (.cells #[] 3)) (w.heap.size + 1) (some ⟨w.heap.size + 1, 0, none⟩) 0 (List.replicate 0 0) :=
    ⟨rfl, .inr ⟨w.heap.size + 1, 0, #[], rfl, Nat.le_refl _, heap_at2 w _ 3 #[], Nat.le_refl _, Nat.zero_le _, rfl, rfl⟩⟩
  have hR0 := hr.next hB0
  have p0 := hP.cell 0
  have p1 := hP.cell 1
  go_enter Tryz.func86, Tryz.ntmps86
  go_wp2_with fail
  refine (spec_ImageValid_c _ _ _ _ xs _ hR0 (by omega)).mono ?_
  rw [hk'.out]
  rintro e w1 ⟨rfl, hb1⟩
  go_wp2_with fail
  refine (l21Ok_c _ _).mono ?_
  rw [hd'.out]
  rintro e w0 ⟨rfl, rfl⟩
  have hP1 := hP.next hb1
  have hE1 := hE.next hb1
  have hL1 := lo_trans hB0 hb1
  clear p0 p1
  have p0 := hP1.cell 0
  have p1 := hP1.cell 1
  go_wp2_with fail
  refine (hlines _).mono ?_
  rintro e w2 ⟨rfl, hb2⟩
  have hP2 := hP1.next hb2
  have hE2 := hE1.next hb2
  have hL2 := lo_trans hL1 hb2
  have hzP := hP2.lt
  clear hP hP1 hE hE1 hB0 hb1 hb2 hL1 p0 p1 hlines hR0
  go_wp2
  go_loopw [5, 9] (fun v i wr => ∃ (k : Nat) (R : Option Addr) (e : Nat), k ≤ N ∧ i = .int .i64 (lo + (k : Int)) ∧ v = .slice R k e ∧ Buf wr (w.heap.size + 1) R e (List.replicate k 0) ∧ Blk wr w.heap.size 29 #[.int .i64 (m : Int), .slice A n c] ∧ Below w.heap.size w wr) (fun _ i _ => (hi + 1 - intOf i).toNat)
  case atStart => exact ⟨0, _, 0, Nat.zero_le _, by simp, rfl, hE2, hP2, hL2⟩
  case round =>
    clear hE2 hP2 hL2
    obtain ⟨k, R, e, hkN, rfl, rfl, hB, hP, hL⟩ := hrel
    have hyl : Hid ((List.replicate k (0 : Int)).length = k) := Lib.hid (by simp)
    by_cases hlt : k < N
    · have g1 : decide (lo + (k : Int) ≤ hi) = true := decide_eq_true (by omega)
      have hB3 : Buf (wr.alloc (.cells #[.int .i64 0] 3)) (w.heap.size + 1) R e (List.replicate k 0) := hB.next (by (repeat (first | exact Below.refl _ _ | assumption | refine lo_alloc ?_ _ | refine lo_set ?_ (by simp; try omega) _ | refine Below.drew ?_ | refine below_drewN ?_ _ | refine lo_trans ?_ (by assumption) | refine lo_wr ?_ (by assumption) (by omega))))
      have hP3 := hP.alloc (.cells #[.int .i64 0] 3)
      have hL3 := lo_alloc hL (.cells #[.int .i64 0] 3)
      have hszr := hL.size
      have hzp := hP.lt
      have hrd : Rd (wr.alloc (.cells (ints [(0 : Int)]) 3)) (some ⟨wr.heap.size, 0, none⟩) 1 [(0 : Int)] := Rd.of_blk (Blk.new _ _ _)
      have hrep : Hid (List.replicate k (0 : Int) ++ [0] = List.replicate (k + 1) 0) := Lib.hid (by rw [List.replicate_succ'])
      go_wp2_with (at_builtin; refine (wpl_append rfl _ _ rfl (w.heap.size + 1) R e k (List.replicate k 0) rfl hyl.out.symm hB3 _ 1 1 [(0 : Int)] rfl hrd (by omega) (by omega) (by simp; omega) ?_); intro g e' w4 hB4 hg4 hat)
      have hBk := rowA_ge hB3
      rw [hrep.out] at hB4
      go_roundw
      case rel => exact ⟨k + 1, _, e', by omega, by congr 1; omega, rfl, hB4, hP3.grown hg4 (fun e => by have := hBk _ e.symm; omega), hL3.grown hg4 hL3.size (fun g hg => by have := hBk g hg; omega)⟩
      case measure => simp [intOf]; omega
    · obtain rfl : N = k := by omega
      have g1 : decide (lo + (N : Int) ≤ hi) = false := decide_eq_false (by omega)
      have hO0 := hB.own
      rw [hyl.out, ← hz.out] at hO0
      obtain ⟨o, rfl, ho, _⟩ := hO0.at_ (k := 0) (by omega)
      have hP0 := hP
      have hB0 := Below.refl wr.heap.size wr
      obtain ⟨w3, hw3⟩ : ∃ w3 : World, w3 = wr := ⟨_, rfl⟩
      subst hw3
      clear hB
      go_wp2
      go_loopw [10] (fun i wr => ∃ k : Nat, k ≤ n ∧ i = .int .i64 k ∧ Own wr (w.heap.size + 1) (some ⟨o, 0, none⟩) N (dst xs d n m k 0) ∧ Blk wr w.heap.size 29 #[.int .i64 (m : Int), .slice A n c] ∧ Below w.heap.size w wr) (fun i _ => n - (intOf i).toNat)
      case atStart => exact ⟨0, Nat.zero_le _, rfl, hO0, hP, hL⟩
      case round =>
        clear hO0 hP hP0 hL hB0
        obtain ⟨k, hk, rfl, hO, hP, hL⟩ := hrel
        have p0 := hP.cell 0
        have p1 := hP.cell 1
        by_cases hlt1 : k < n
        · go_wp2
          go_loopw [11] (fun j wr => ∃ q : Nat, q ≤ m ∧ j = .int .i64 q ∧ Own wr (w.heap.size + 1) (some ⟨o, 0, none⟩) N (dst xs d n m k q) ∧ Blk wr w.heap.size 29 #[.int .i64 (m : Int), .slice A n c] ∧ Below w.heap.size w wr) (fun j _ => m - (intOf j).toNat)
          case atStart => exact ⟨0, Nat.zero_le _, rfl, hO, hP, hL⟩
          case round =>
            clear hO hP hL p0 p1
            obtain ⟨q, hq, rfl, hO, hP, hL⟩ := hrel
            have p0 := hP.cell 0
            have p1 := hP.cell 1
            by_cases hlt2 : q < m
            · have hb1 := b1_le (cellF xs k q)
              obtain ⟨e1, e2, _⟩ := hK.out k q hlt1 hlt2
              have hst := Lib.hid (hS.out k q hlt1 hlt2)
              have hvl := hval.out k q _ e1
              have hdc := dcnt_le xs d m k q (lo + (lnK d n m k q : Int))
              have hkm : k * m ≤ 6 * 6 := Nat.mul_le_mul (by omega) (by omega)
              rw [hvl] at hst
              have hline := fun w => l21Line_c d k q w hd8 (by omega) (by omega)
              have hget := fun w hr => l11Get_c m k q n c xs A w hr hk'.out hlt1 hlt2
              rw [b01_b1] at hget
              generalize lnK d n m k q = K at e1 e2 hst hvl hdc
              generalize dcnt xs d m k q (lo + (K : Int)) = v at hst hvl hdc
              generalize b1 (cellF xs k q) = nb at hb1 hst hget
              generalize lnD d k q = ln at e2 hline
              obtain ⟨_, hzo, co, fo, so⟩ := hO.cellSet' (k := K) e1
              rw [hvl] at co
              have hrA := hr.next (Below.drew hL)
              have ew : IntKind.i64.wrap (ln - lo) = (K : Int) := by rw [e2]; exact IntWalk.i64_in _ (by omega)
              have ev : IntKind.i64.wrap ((v : Int) + (nb : Int)) = (v : Int) + (nb : Int) := IntWalk.i64_in _ (by omega)
              have hK0 : (0 : Int) ≤ (K : Int) := by omega
              have hKN : (K : Int) < (N : Int) := by omega
              have hPd := hP.drew
              have hOd := hO.drew
              have hLr := Below.refl wr.drew.heap.size wr.drew
              have hvl' := Lib.hid hvl
              clear hO hvl so e2
              go_wp2
              go_region_with
                (first
                  | (go_at_call 126
                     refine (hline _).mono ?_
                     rintro e w5 ⟨rfl, hb5⟩
                     have hX : Below wr.drew.heap.size wr.drew w5 := lo_trans hLr hb5
                     clear hLr
                     have hLr := hX
                     have hP5 := hPd.next hLr
                     have a0 := hP5.cell 0
                     have a1 := hP5.cell 1
                     have hO5 := hOd.next hLr
                     have ho5 := hO5.cellSet' (k := K) e1
                     have cc := ho5.2.2.1
                     rw [hvl'.out] at cc
                     have ff := ho5.2.2.2.1
                     clear ho5 hX)
                  | (go_at_call 127
                     refine (hget _ (hrA.next hLr)).mono ?_
                     rintro e w6 ⟨rfl, hb6⟩
                     have hX : Below wr.drew.heap.size wr.drew w6 := lo_trans hLr hb6
                     clear hLr
                     have hLr := hX
                     have hO6 := hOd.next hLr
                     have ho6 := hO6.cellSet' (k := K) e1
                     have cc := ho6.2.2.1
                     rw [hvl'.out] at cc
                     have ff := ho6.2.2.2.1
                     clear ho6 hX))
              all_goals
                have hO9 := ((hOd.next hLr).cellSet' (k := K) e1).2.2.2.2 ((v : Int) + (nb : Int))
                rw [hst.out] at hO9
                have hP9 := (hPd.next hLr).far (p := ⟨o, K, none⟩) (by simp; omega) (.int .i64 ((v : Int) + (nb : Int)))
                have hL9 := lo_set (lo_trans (Below.drew hL) hLr) (p := ⟨o, K, none⟩) (by simp; omega) (.int .i64 ((v : Int) + (nb : Int)))
                clear hP hL hPd hOd hLr hline hget hrA ew ev
                go_wp2
                go_roundw
                case rel => exact ⟨q + 1, by omega, by go_num, hO9, hP9, hL9⟩
                case measure => simp [intOf]; omega
            · obtain rfl : q = m := by omega
              have hO' := Lib.hid hO
              rw [hnx.out k] at hO'
              go_wp2
              go_roundw
              case rel => exact ⟨k + 1, by omega, by go_num, hO'.out, hP, hL⟩
              case measure => simp [intOf]; omega
        · obtain rfl : k = n := by omega
          rw [← hfin.out] at hO
          go_wp2
          go_ret
          exact ⟨_, _, _, rfl, hO.mono (by omega), hL⟩
end Go.Proofs.YteabnljjogiflaaGreatDoor

-- Walks: the order switch (the reference's way).
namespace Go.Proofs.YteabnljjogiflaaGreatDoor
open Go.RowKit
set_option maxRecDepth 100000

/-- words in block g -/
def WB (w : World) (g : Nat) (ws : List Bs) : Prop := g < w.heap.size ∧ ∀ k x, ws[k]? = some x → w.cell? ⟨g, k, none⟩ = some (.string (S x))
theorem WB.next {w w' : World} {g : Nat} {ws : List Bs} (h : WB w g ws) (hb : Below w.heap.size w w') : WB w' g ws :=
  ⟨Nat.lt_of_lt_of_le h.1 hb.size, fun k x hx => (hb.cell h.1).trans (h.2 k x hx)⟩
theorem WB.set {w : World} {g : Nat} {ws : List Bs} (h : WB w g ws) {p : Addr} (hp : p.block ≠ g) (v : Value) : WB (w.setCell p v) g ws :=
  ⟨by rw [World.size_setCell]; exact h.1, fun k x hx => (World.cell?_setCell_far w p ⟨g, k, none⟩ v hp).trans (h.2 k x hx)⟩
theorem WB.get {w : World} {g : Nat} {ws : List Bs} (h : WB w g ws) {k : Nat} {x : Bs} (hx : ws[k]? = some x) : w.cell? ⟨g, k, none⟩ = some (.string (S x)) := h.2 k x hx
theorem WB.drew {w : World} {g : Nat} {ws : List Bs} (h : WB w g ws) : WB w.drew g ws := h
theorem SBuf.wb {w : World} {base c : Nat} {A : Option Addr} {ws : List Bs} (h : SBuf w base A c ws) (hn : ws ≠ []) : ∃ g, A = some ⟨g, 0, none⟩ ∧ base ≤ g ∧ WB w g ws := by
  rcases h.form with ⟨_, e⟩ | ⟨g, cs, e, hb, hk, hx⟩
  · exact absurd e hn
  · exact ⟨g, e, hb, hk.lt, fun k x h => by rw [hk.cell]; exact hx k x h⟩
theorem dgt_bd (l : Bs) : -1 ≤ dgt l ∧ dgt l ≤ 9 := by
  unfold dgt
  split
  · split
    · next c hc =>
      have := isDig_iff.1 hc
      unfold digV
      omega
    · omega
  · omega

set_option maxHeartbeats 8000000 in
theorem l51Switch_c (W : Int) (A : Option Addr) (n c g cw : Nat) (xs : List Int) (k0 x y z u : Bs) (w : World) (hr : Rd w A n xs) (hn : n ≤ 1000) (hw : WB w g [k0, x, y, z, u]) (hx : x.length ≤ 1000) (hy : y.length ≤ 1000) (hz : z.length ≤ 1000) (hu : u.length ≤ 1000) :
    Calls Tryz.prog 35 #[.agg #[.int .i64 W, .slice A n c], .slice (some ⟨g, 0, none⟩) 5 cw] w (Img3 w (exSwitch (W, xs) (dgt x) (dgt y) (dgt z) (dgt u))) := by
  have hP := (Blk.new w 29 #[.int .i64 W, .slice A n c]).alloc (.cells #[.int .i64 0, .slice none 0 0] 29)
  have hQ := heap_at2 w (.cells #[.int .i64 W, .slice A n c] 29) 29 #[.int .i64 0, .slice none 0 0]
  have hB0 := lo_alloc (lo_alloc (Below.refl w.heap.size w) (.cells #[.int .i64 W, .slice A n c] 29)) (.cells #[.int .i64 0, .slice none 0 0] 29)
  have hR0 := hr.next hB0
  have hw0 := hw.next hB0
  obtain ⟨w2, hw2⟩ : ∃ w2, w2 = (w.alloc (.cells #[.int .i64 W, .slice A n c] 29)).alloc (.cells #[.int .i64 0, .slice none 0 0] 29) := ⟨_, rfl⟩
  rw [← hw2] at hP hQ hB0 hR0 hw0
  go_enter Tryz.func35, Tryz.ntmps35
  go_wp2
  rw [← hw2]
  clear hw2
  have hPd := hP.drew
  have hQd := hQ.drew
  have hRd := hR0.drew
  have hwd := hw0.drew
  have hBd : Below w.heap.size w w2.drew := Below.drew hB0
  have hLr := Below.refl w2.drew.heap.size w2.drew
  have hwA : WB (w2.alloc (.cells #[.int .i64 0, .int .i64 0, .int .i64 0, .int .i64 0] 76)).drew g [k0, x, y, z, u] := (hw0.next (lo_alloc (Below.refl _ _) _)).drew
  have hLA : Below w2.drew.heap.size w2.drew (w2.alloc (.cells #[.int .i64 0, .int .i64 0, .int .i64 0, .int .i64 0] 76)).drew := lo_alloc (Below.refl w2.drew.heap.size w2.drew) (.cells #[.int .i64 0, .int .i64 0, .int .i64 0, .int .i64 0] 76)
  have hAA : Blk (w2.alloc (.cells #[.int .i64 0, .int .i64 0, .int .i64 0, .int .i64 0] 76)).drew w2.heap.size 76 #[.int .i64 0, .int .i64 0, .int .i64 0, .int .i64 0] := (Blk.new w2 _ _).drew
  have hnA : w2.heap.size ≠ g := Nat.ne_of_gt hw0.1
  have i1 : [k0, x, y, z, u][1]? = some x := rfl
  have i2 : [k0, x, y, z, u][2]? = some y := rfl
  have i3 : [k0, x, y, z, u][3]? = some z := rfl
  have i4 : [k0, x, y, z, u][4]? = some u := rfl
  go_region_held3 (fun w' => w'.cell? ⟨g, 1, none⟩ = some (.string (S x)) ∧ w'.cell? ⟨g, 2, none⟩ = some (.string (S y)) ∧ w'.cell? ⟨g, 3, none⟩ = some (.string (S z)) ∧ w'.cell? ⟨g, 4, none⟩ = some (.string (S u)))
    (first
      | assumption
      | ((try simp only [World.cell?_setCell_far, ne_eq, hne, not_false_eq_true]); with_reducible exact ⟨(hwd.next hLr).get i1, (hwd.next hLr).get i2, (hwd.next hLr).get i3, (hwd.next hLr).get i4⟩)
      | with_reducible exact ⟨hwA.get i1, hwA.get i2, hwA.get i3, hwA.get i4⟩
      | with_reducible exact ⟨(hwd.next (lo_alloc hLr _)).get i1, (hwd.next (lo_alloc hLr _)).get i2, (hwd.next (lo_alloc hLr _)).get i3, (hwd.next (lo_alloc hLr _)).get i4⟩
      | fail)
    (first
      | (go_at_call 42
         refine (l51Number_c _ _ (by omega)).mono ?_
         rintro e w11 ⟨rfl, hb1⟩
         first
          | (have hX : Below w2.drew.heap.size w2.drew w11 := by with_reducible exact lo_trans hLr hb1
             clear hLr
             have hLr := hX
             first
              | (have hA := hA.next hb1
                 have a0 := hA.cell 0
                 have a1 := hA.cell 1
                 have a2 := hA.cell 2
                 have a3 := hA.cell 3
                 have g0 := hA.frozen 0
                 have g1 := hA.frozen 1
                 have g2 := hA.frozen 2
                 have g3 := hA.frozen 3)
              | skip)
          | (have hX : Below w2.drew.heap.size w2.drew w11 := by with_reducible exact lo_trans hLA hb1
             have hne := hnA
             have hbz := Nat.le_refl w2.heap.size
             clear hLr
             have hLr := hX
             have hA := hAA.next hb1
             have a0 := hA.cell 0
             have a1 := hA.cell 1
             have a2 := hA.cell 2
             have a3 := hA.cell 3
             have g0 := hA.frozen 0
             have g1 := hA.frozen 1
             have g2 := hA.frozen 2
             have g3 := hA.frozen 3)
          | (have hX : Below w2.drew.heap.size w2.drew w11 := by with_reducible exact lo_trans (lo_alloc hLr _) hb1
             have hne := Nat.ne_of_gt (hwd.next hLr).1
             have hbz := hLr.size
             clear hLr
             have hLr := hX
             have hA := (Blk.new _ 76 #[.int .i64 0, .int .i64 0, .int .i64 0, .int .i64 0]).next hb1
             have a0 := hA.cell 0
             have a1 := hA.cell 1
             have a2 := hA.cell 2
             have a3 := hA.cell 3
             have g0 := hA.frozen 0
             have g1 := hA.frozen 1
             have g2 := hA.frozen 2
             have g3 := hA.frozen 3)
          | fail))
  all_goals
    have hz2 : w2.drew.heap.size = w2.heap.size := rfl
    have hszw : w.heap.size + 2 ≤ w2.heap.size := by have := hQ.lt; omega
    first
      | (have hZ := (((hA.set_ 0 (.int .i64 (dgt x))).set_ 1 (.int .i64 (dgt y))).set_ 2 (.int .i64 (dgt z))).set_ 3 (.int .i64 (dgt u))
         have hLz := lo_set (lo_set (lo_set (lo_set hLr (p := ⟨_, 0, none⟩) hbz (.int .i64 (dgt x))) (p := ⟨_, 1, none⟩) hbz (.int .i64 (dgt y))) (p := ⟨_, 2, none⟩) hbz (.int .i64 (dgt z))) (p := ⟨_, 3, none⟩) hbz (.int .i64 (dgt u)))
      | (have hZ := Blk.new w11 76 #[.int .i64 (dgt x), .int .i64 (dgt y), .int .i64 (dgt z), .int .i64 (dgt u)]
         have hLz := lo_alloc hLr (.cells #[.int .i64 (dgt x), .int .i64 (dgt y), .int .i64 (dgt z), .int .i64 (dgt u)] 76))
    refine (fun (h : ∀ wf : World, Blk wf _ _ _ → Below _ _ wf → Exit.then _ _ Exit.normal _ wf) => h _ hZ hLz) ?_
    clear hZ hLz
    intro wf hZ hLz
    (try clear hA a0 a1 a2 a3 g0 g1 g2 g3 hne hbz)
    clear hLr hb1 hwA hLA hAA hnA i1 i2 i3 i4 hwd hw0 hw
    have z0 := hZ.cell 0
    have z1 := hZ.cell 1
    have z2 := hZ.cell 2
    have z3 := hZ.cell 3
    have kP := hPd.next hLz
    have kQ := hQd.next hLz
    have hR := hRd.next hLz
    have p0 := kP.cell 0
    have p1 := kP.cell 1
    have hszf := kQ.lt
    go_wp2_with fail
    refine (spec_SwitchDo_c W n c A xs (dgt x) (dgt y) (dgt z) (dgt u) _ hR (by omega) (by have := dgt_bd y; omega) (by have := dgt_bd u; omega)).mono ?_
    rintro e w12 ⟨V, R, r, k, rfl, hb, hO⟩
    have kQ2 := kQ.next hb
    have d0 := kQ2.cell 0
    have d1 := kQ2.cell 1
    have f0 := kQ2.frozen 0
    have f1 := kQ2.frozen 1
    have hF := (kQ2.set_ 0 (.int .i64 V)).set_ 1 (.slice R r k)
    have r0 := hF.cell 0
    have r1 := hF.cell 1
    have hL9 := lo_set (lo_set (lo_trans hBd (lo_trans hLz hb)) (p := ⟨w.heap.size + 1, 0, none⟩) (by simp) (.int .i64 V)) (p := ⟨w.heap.size + 1, 1, none⟩) (by simp) (.slice R r k)
    have hsz0 := hLz.size
    clear hF kQ kQ2 kP z0 z1 z2 z3 p0 p1
    go_wp2
    exact bodyPost_ret (v := .tuple #[.agg #[.int .i64 V, .slice R r k], .bool (exSwitch (W, xs) (dgt x) (dgt y) (dgt z) (dgt u)).isSome]) (by simp [results, Tryz.results35, go_sem, r0, r1]) rfl ⟨V, R, r, k, rfl, hL9, fun s hs => ⟨(hO s hs).1, (((hO s hs).2.far_lo (p := ⟨w.heap.size + 1, 0, none⟩) (by simp only; omega) (.int .i64 V)).far_lo (p := ⟨w.heap.size + 1, 1, none⟩) (by simp only; omega) (.slice R r k)).mono (by omega)⟩⟩
end Go.Proofs.YteabnljjogiflaaGreatDoor

-- Walks: a row is taken off the sums that are left (the reference's way).
namespace Go.Proofs.YteabnljjogiflaaGreatDoor
open Go.RowKit
set_option maxRecDepth 100000

/-- k columns are done -/
def tkL (row : Nat) (lf : List Int) (k : Nat) : List Int := (takeL row lf).take k ++ lf.drop k
theorem tkL_at {row : Nat} {lf : List Int} {k : Nat} (hk : k < lf.length) : (tkL row lf k)[k]?.getD 0 = lf[k]?.getD 0 := by
  rw [tkL, List.getElem?_append_right (by rw [List.length_take, takeL_len]; omega), List.length_take, takeL_len, Nat.min_eq_left (by omega), Nat.sub_self, List.getElem?_drop, Nat.add_zero]
theorem tkL_set {row : Nat} {lf : List Int} {k : Nat} (hk : k < lf.length) : (tkL row lf k).set k (lf[k]?.getD 0 - (b1 (row.testBit k) : Nat)) = tkL row lf (k + 1) := by
  have hl : ((takeL row lf).take k).length = k := by rw [List.length_take, takeL_len]; omega
  have hkt : k < (takeL row lf).length := by rw [takeL_len]; exact hk
  rw [tkL, tkL, List.set_append_right _ _ (by omega), hl, Nat.sub_self, List.drop_eq_getElem_cons hk, List.set_cons_zero, List.take_add_one, List.getElem?_eq_getElem hkt, List.append_assoc]
  have := takeL_get (row := row) hk
  rw [List.getElem?_eq_getElem hkt, Option.getD_some] at this
  simp [this]
set_option maxHeartbeats 4000000 in
theorem l15Take_c (A : Option Addr) (n c row : Nat) (lf : List Int) (w : World) (hr : Rd w A n lf) (hn0 : 0 < n) (hn : n ≤ 6) (hrow : row < 64) (hx : ∀ x ∈ lf, -1000 ≤ x ∧ x ≤ 1000) :
    Calls Tryz.prog 119 #[.slice A n c, .int .i64 (row : Int)] w fun e w' => ∃ (g c' : Nat), e = .returned (.tuple #[.slice (some ⟨g, 0, none⟩) n c', .bool (takeOk row lf)]) ∧ Below w.heap.size w w' ∧ (takeOk row lf = true → Own w' w.heap.size (some ⟨g, 0, none⟩) n (takeL row lf)) := by
  have hxl := hr.1
  have hE := Buf.empty w (base := w.heap.size) (Nat.le_refl _)
  have hL0 := lo_alloc (Below.refl w.heap.size w) (.cells #[] 3)
  have hR0 := hr.alloc (.cells #[] 3)
  go_enter Tryz.func119, Tryz.ntmps119
  go_wp2_with (at_builtin; refine (wpl_append rfl _ _ rfl w.heap.size _ 0 0 [] rfl rfl hE _ n c lf rfl hR0 hn0 (by omega) (by simp) ?_); intro g c' w4 hB4 hg4 hat)
  rw [List.nil_append] at hB4
  have hO4 := hB4.own
  rw [hxl] at hO4
  have hL4 := hL0.grown hg4 hL0.size (fun g hg => rowA_ge hE g hg)
  have hz : Hid (tkL row lf 0 = lf) := Lib.hid (by simp [tkL])
  have hxl' := Lib.hid hxl
  clear hE hL0 hR0 hB4 hg4 hat hxl
  go_loopw [7] (fun i wr => ∃ k : Nat, k ≤ n ∧ i = .int .i64 k ∧ Own wr w.heap.size (some ⟨g, 0, none⟩) n (tkL row lf k) ∧ Below w.heap.size w wr ∧ Hid (∀ x ∈ (takeL row lf).take k, 0 ≤ x)) (fun i _ => n - (intOf i).toNat)
  case atStart => exact ⟨0, Nat.zero_le _, rfl, by rw [hz.out]; exact hO4, hL4, Lib.hid (fun x h => by simp at h)⟩
  case round =>
    obtain ⟨k, hk, rfl, hO, hL, hP⟩ := hrel
    clear hO4 hL4 hz
    by_cases hlt : k < n
    · have hkl : k < lf.length := by rw [hxl'.out]; exact hlt
      obtain ⟨g1, g2, hc, hf, hset⟩ := hO.cellSet hlt
      rw [tkL_at hkl] at hc
      have hxk := hx _ (getD_mem' hkl)
      have hb2 : ((b1 (row.testBit k) : Nat) : Int) = ((row / 2 ^ k % 2 : Nat) : Int) := by
        rw [Nat.testBit_eq_decide_div_mod_eq]
        rcases Nat.mod_two_eq_zero_or_one (row / 2 ^ k) with h | h <;> simp [h, b1]
      have hs := tkL_set (row := row) hkl
      have hset' := Lib.hid (show Own (wr.setCell ⟨g, k, none⟩ (.int .i64 (lf[k]?.getD 0 - (b1 (row.testBit k) : Nat)))) w.heap.size (some ⟨g, 0, none⟩) n (tkL row lf (k + 1)) by rw [← hs]; exact hset _)
      have htk := takeL_get (row := row) hkl
      have htk2 : (takeL row lf).take (k + 1) = (takeL row lf).take k ++ [lf[k]?.getD 0 - (b1 (row.testBit k) : Nat)] := by
        have hkt : k < (takeL row lf).length := by rw [takeL_len]; exact hkl
        rw [take_snoc hkt]
        rw [List.getElem?_eq_getElem hkt, Option.getD_some] at htk
        rw [htk]
      have hmem : lf[k]?.getD 0 - (b1 (row.testBit k) : Nat) ∈ takeL row lf := by
        rw [← htk]
        exact getD_mem' (by rw [takeL_len]; exact hkl)
      have htk3 := Lib.hid htk2
      rw [hb2] at hset' htk3 hmem
      have hb3 : row / 2 ^ k % 2 < 2 := Nat.mod_lt _ (by omega)
      generalize lf[k]?.getD 0 = x at hc hxk hset' htk3 hmem
      obtain ⟨bt, hbt⟩ : ∃ bt, Hid (row / 2 ^ k % 2 = bt) := ⟨_, Lib.hid rfl⟩
      rw [hbt.out] at hset' htk3 hmem hb3
      have hbit := still_of (l1Bit_c row k wr.drew (by omega) (by omega))
      rw [hbt.out] at hbit
      have hcd : wr.drew.cell? ⟨g, k, none⟩ = some (.int .i64 x) := hc
      have hfd : wr.drew.frozen? ⟨g, k, none⟩ = false := hf
      have hL5 : Below w.heap.size w (wr.setCell ⟨g, k, none⟩ (.int .i64 (x - (bt : Int)))).drew := Below.drew (lo_set hL (p := ⟨g, k, none⟩) (by simp; omega) (.int .i64 (x - (bt : Int))))
      have hsd : Hid (Own (wr.setCell ⟨g, k, none⟩ (.int .i64 (x - (bt : Int)))).drew w.heap.size (some ⟨g, 0, none⟩) n (tkL row lf (k + 1))) := Lib.hid hset'.out.drew
      clear hset hs htk htk2 hb2 hO hset'
      go_wp2
      refine region_tail 11 (by kernel_rfl) (by kernel_rfl) ?_
      simp only [List.take_succ_cons, List.take_zero, List.drop_succ_cons, List.drop_zero]
      repeat still_step
      still_call hbit
      repeat still_step
      refine wpStill_nil ?_
      have ew : IntKind.i64.wrap (x - (bt : Int)) = x - (bt : Int) := IntWalk.i64_in _ (by omega)
      have hsz5 := hL5.size
      by_cases hneg : x - (bt : Int) < 0
      · have g3 : decide (x - (bt : Int) < 0) = true := by simp; omega
        have hT := Lib.hid (show takeOk row lf = false by
          rw [Bool.eq_false_iff]
          intro h
          have := takeOk_iff.1 h _ hmem
          omega)
        clear hneg
        go_wp2
        go_ret2
        rw [hT.out]
        exact ⟨g, c', rfl, hL5, fun e => by cases e⟩
      · have g3 : decide (x - (bt : Int) < 0) = false := by simp; omega
        have hP' := Lib.hid (show ∀ x ∈ (takeL row lf).take (k + 1), 0 ≤ x by
          rw [htk3.out]
          intro z hz
          rcases List.mem_append.1 hz with h | h
          · exact hP.out z h
          · rw [List.mem_singleton.1 h]; omega)
        clear hneg
        go_wp2
        exact ⟨⟨k + 1, by omega, by go_num, hsd.out, hL5, hP'⟩, by simp [intOf]; omega⟩
    · obtain rfl : k = n := by omega
      have hT := Lib.hid (show takeOk row lf = true by
        rw [takeOk_iff]
        have := hP.out
        rwa [List.take_of_length_le (by rw [takeL_len, hxl'.out]; exact Nat.le_refl _)] at this)
      have hO9 : Own wr w.heap.size (some ⟨g, 0, none⟩) k (takeL row lf) := by
        have e : tkL row lf k = takeL row lf := by
          rw [tkL, List.take_of_length_le (by rw [takeL_len, hxl'.out]; exact Nat.le_refl _), List.drop_eq_nil_of_le (by rw [hxl'.out]; exact Nat.le_refl _), List.append_nil]
        rw [← e]; exact hO
      go_wp2
      go_ret2
      rw [hT.out]
      exact ⟨g, c', rfl, hL, fun _ => hO9⟩
end Go.Proofs.YteabnljjogiflaaGreatDoor

-- Walks: the bits of a row are counted; the ways to fill rows (the reference's way).
namespace Go.Proofs.YteabnljjogiflaaGreatDoor
open Go.RowKit
set_option maxRecDepth 100000

theorem pop_half_all : ((List.range 64).all fun x => pop x == x % 2 + pop (x / 2)) = true := by decide +kernel
theorem pop_half {x : Nat} (h : x < 64) : pop x = x % 2 + pop (x / 2) := by
  have := List.all_eq_true.1 pop_half_all x (List.mem_range.2 h)
  simpa using this
set_option maxHeartbeats 1000000 in
theorem l15Count_x (r : Nat) (w : World) (hr : r < 64) :
    Calls Tryz.prog 111 #[.int .i64 r] w fun e w' => e = .returned (.int .i64 (pop r : Nat)) ∧ w = w' := by
  go_enter Tryz.func111, Tryz.ntmps111
  go_wp2
  go_loop [0, 3] (fun q c => ∃ x n : Nat, x < 64 ∧ n ≤ 64 ∧ n + x ≤ 64 ∧ Hid (n + pop x = pop r) ∧ q = .int .i64 x ∧ c = .int .i64 n) (fun q _ => (intOf q).toNat)
  case atStart => exact ⟨r, 0, hr, by omega, by omega, Lib.hid (by omega), rfl, rfl⟩
  case round =>
    obtain ⟨x, n, hx, hn, hnx, hp, rfl, rfl⟩ := hrel
    by_cases h0 : 0 < x
    · have hN := Lib.hid (show n + x % 2 + pop (x / 2) = pop r by have := hp.out; have := pop_half hx; omega)
      go_wp2
      go_round
      case rel =>
        refine ⟨x / 2, n + x % 2, by omega, by omega, by omega, hN, ?_, ?_⟩
        · simp
        · simp
      case measure => simp [intOf]; omega
    · obtain rfl : x = 0 := by omega
      have hT := Lib.hid (show pop r = n by have h1 := hp.out; have e : pop 0 = 0 := rfl; rw [e] at h1; omega)
      go_wp2
      go_ret
      rw [hT.out]
      exact ⟨rfl, rfl⟩
end Go.Proofs.YteabnljjogiflaaGreatDoor
