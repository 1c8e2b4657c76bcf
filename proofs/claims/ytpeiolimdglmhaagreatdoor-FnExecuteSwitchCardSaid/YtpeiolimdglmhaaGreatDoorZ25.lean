/- Plain facts and walks that the law's proof uses; each says its own conditions. -/
import Derived.Test.YtpeiolimdglmhaaGreatDoorZ24
import Derived.Test.YtpeiolimdglmhaaGreatDoorZ06
import Derived.Deep.RegionHeld3
-- Walks: the table of an image (TableOf).
namespace Go.Proofs.YtpeiolimdglmhaaGreatDoor
open Go.RowKit Go.Shelf
attribute [local go_sem] Oper.semAt_some
set_option maxRecDepth 100000

theorem TableOf_no (W : Int) (A : Option Addr) (n c : Nat) (xs : List Int) (w : World) (hr : Rd w A n xs) (hn : n ≤ 1000) (hk : okB W xs = false) :
    Calls Tryz.prog 52 #[.agg #[.int .i64 W, .slice A n c]] w fun e w' => e = .returned (.tuple #[.slice none 0 0, .bool false]) ∧ Below w.heap.size w w' := by
  have hB0 := lo_alloc (Below.refl w.heap.size w) (.cells #[.int .i64 W, .slice A n c] 25)
  have hk' := Lib.hid hk
  clear hk
  go_enter Tryz.func52, Tryz.ntmps52
  go_wp2_with fail
  refine (impl_ImageValid_c _ _ _ _ xs _ (hr.next hB0) (by omega)).mono ?_
  rw [hk'.out]
  rintro e w1 ⟨rfl, hb1⟩
  go_wp2
  go_ret2
  exact ⟨rfl, lo_trans hB0 hb1⟩

set_option maxHeartbeats 8000000 in
theorem TableOf_yes (m : Nat) (A : Option Addr) (n c : Nat) (xs : List Int) (w : World) (hr : Rd w A n xs) (hk : okB (m : Int) xs = true) :
    Calls Tryz.prog 52 #[.agg #[.int .i64 (m : Int), .slice A n c]] w fun e w' => ∃ g, e = .returned (.tuple #[.slice (some ⟨g, 0, none⟩) n n, .bool true]) ∧ w.heap.size ≤ g ∧ Tab w' g m n (rowR xs m) ∧ Below w.heap.size w w' := by
  have hbd := okB_bd hk
  rw [hr.1] at hbd
  have hP := Blk.new w 25 #[.int .i64 (m : Int), .slice A n c]
  have hB0 := lo_alloc (Below.refl w.heap.size w) (.cells #[.int .i64 (m : Int), .slice A n c] 25)
  have hk' := Lib.hid hk
  clear hk
  refine (callsIn_wide (n := 3)).1 ?_
  refine callsIn_of_wp_marks Tryz.func52 rfl trivial ?_ rfl
  refine wpIn_wide.2 ?_
  simp only [Tryz.ntmps52, List.size_toArray, List.length_cons, List.length_nil, Nat.reduceAdd, Nat.reduceSub, Array.replicate_succ, Array.replicate_zero, List.push_toArray, List.append_toArray, List.nil_append, List.cons_append]
  go_wp2_with fail
  refine (impl_ImageValid_c _ _ _ _ xs _ (hr.next hB0) (by omega)).mono ?_
  rw [hk'.out]
  rintro e w1 ⟨rfl, hb1⟩
  have hP1 := hP.next hb1
  have hB1 := lo_trans hB0 hb1
  have hz1 := hP1.lt
  have c0 := hP1.cell 0
  have c1 := hP1.cell 1
  clear hP hB0 hb1
  go_wp2_with fail
  refine (emptyTable_c n m _ (by omega) (by omega)).mono ?_
  rintro e w2 ⟨rfl, hT2, hb2, hz2'⟩
  have hz2 := Lib.hid hz2'
  clear hz2'
  have hP3 := (hP1.next hb2).alloc (.cells #[.slice (some ⟨w1.heap.size, 0, none⟩) n n] 76)
  have hO3 := Blk.new w2 76 #[.slice (some ⟨w1.heap.size, 0, none⟩) n n]
  have hT3 : Tab (w2.alloc (.cells #[.slice (some ⟨w1.heap.size, 0, none⟩) n n] 76)) w1.heap.size m n (tabR xs ([] : List (Cell n m))) := ⟨hT2.1.alloc _, fun i hi => ⟨by rw [tabR_nil]; exact (hT2.2 i hi).1.alloc _, tabR_len _ _ _⟩⟩
  have hB3 := lo_alloc (lo_trans hB1 hb2) (.cells #[.slice (some ⟨w1.heap.size, 0, none⟩) n n] 76)
  have hz3 : (w2.alloc (.cells #[.slice (some ⟨w1.heap.size, 0, none⟩) n n] 76)).heap.size = w2.heap.size + 1 := by simp
  clear c0 c1 hP1 hB1 hT2 hb2
  have c0 := hP3.cell 0
  have c1 := hP3.cell 1
  go_wp2_with fail
  refine (callsIn_wide.1 (cells_in Fence.wide 3 trivial rfl _ _ _)).mono ?_
  rintro e w4 ⟨rfl, rfl⟩
  have hC4 := Blk.new (w2.alloc (.cells #[.slice (some ⟨w1.heap.size, 0, none⟩) n n] 76)) 25 #[.int .i64 (m : Int), .slice A n c]
  rw [hz3] at hC4
  have hP4 := hP3.alloc (.cells #[.int .i64 (m : Int), .slice A n c] 25)
  have hO4 := hO3.alloc (.cells #[.int .i64 (m : Int), .slice A n c] 25)
  have hT4 : Tab ((w2.alloc (.cells #[.slice (some ⟨w1.heap.size, 0, none⟩) n n] 76)).alloc (.cells #[.int .i64 (m : Int), .slice A n c] 25)) w1.heap.size m n (tabR xs ([] : List (Cell n m))) := ⟨hT3.1.alloc _, fun i hi => ⟨(hT3.2 i hi).1.alloc _, (hT3.2 i hi).2⟩⟩
  have hB4 := lo_alloc hB3 (.cells #[.int .i64 (m : Int), .slice A n c] 25)
  have hz4 : ((w2.alloc (.cells #[.slice (some ⟨w1.heap.size, 0, none⟩) n n] 76)).alloc (.cells #[.int .i64 (m : Int), .slice A n c] 25)).heap.size = w2.heap.size + 2 := by simp
  clear c0 c1 hP3 hO3 hT3 hB3 hz3
  go_wp2
  obtain ⟨p, hp⟩ : ∃ p, p = w.heap.size := ⟨_, rfl⟩
  obtain ⟨g, hg⟩ : ∃ g, g = w1.heap.size := ⟨_, rfl⟩
  obtain ⟨o, ho⟩ : ∃ o, o = w2.heap.size := ⟨_, rfl⟩
  rw [← hp, ← hg] at hP4
  rw [← hg] at hT4 hO4 hC4 hB4 hz4
  rw [← ho] at hO4 hC4 hz4
  rw [← hp, ← hg, ← ho]
  have hp1 : w.heap.size ≤ p := by omega
  have hpg : p < g := by omega
  have hgo : o = g + 1 + n := by have := hz2.out; omega
  generalize (w2.alloc (.cells #[.slice (some ⟨g, 0, none⟩) n n] 76)).alloc (.cells #[.int .i64 (m : Int), .slice A n c] 25) = w4 at hP4 hO4 hT4 hC4 hB4 hz4 ⊢
  clear hp hg ho hz1 hz2
  have hgo1 : g + 1 + n ≤ o := by omega
  have hgo2 : o ≤ g + 1 + n := by omega
  clear hgo
  refine (wpIn_wide (n := 3)).1 ?_
  refine wpIn_rangeFunc_ownG rfl (by omega) (gf := 77) (lb := #[.pointer (some ⟨o + 1, 0, none⟩)]) rfl trivial (enters_of Tryz.func77 (by kernel_rfl) rfl)
    (cells_stops Fence.wide _ trivial rfl (by omega) (o + 1) n m c A (by omega) (by omega) w4 (by omega) hC4) KB.trans (KB.put (by omega)) (Below.refl _ _) (fun _ => rfl)
    (fun (pre : List (Cell n m)) W => Below w.heap.size w W ∧ Blk W p 25 #[.int .i64 (m : Int), .slice A n c] ∧ Blk W o 76 #[.slice (some ⟨g, 0, none⟩) n n] ∧ Blk W g 23 (tabC g m n n) ∧ (∀ i, i < n → Blk W (g + 1 + i) 3 (ints (tabR xs pre i))) ∧ w4.heap.size ≤ W.heap.size)
    (fun _ _ _ => False)
    (OwnFrom.and (ownFrom_below (Nat.le_refl _) (by omega)) (OwnFrom.and (ownFrom_blk _ (by omega)) (OwnFrom.and (ownFrom_blk _ (by omega)) (OwnFrom.and (ownFrom_blk _ (by omega)) (OwnFrom.and (fun _ _ _ _ hs hg hr i hi => (hs i hi).ownF hg (fun r e => (hr r e).2)) (fun _ _ _ _ hs hg _ => Nat.le_trans hs hg.size))))))
    (fun _ _ _ _ _ hs _ _ => hs)
    ⟨hB4, hP4, hO4, hT4.1, fun i hi => (hT4.2 i hi).1, Nat.le_refl _⟩
    (fun x => { tmps := #[.agg #[.int .i64 (m : Int), .slice A n c], .pointer (some ⟨p, 0, none⟩), .slice none 0 0, .bool false, .pointer (some ⟨o, 0, none⟩), .int .i64 (x.1.1 : Int), .int .i64 (x.1.2 : Int), .agg #[.int .i64 (m : Int), .slice A n c], .bool true, .bool false, .pointer (some ⟨p, 1, none⟩), .slice A n c, .int .i64 (n : Int), .pointer (some ⟨p, 0, none⟩), .int .i64 (m : Int), .slice (some ⟨g, 0, none⟩) n n, .agg #[.int .i64 (m : Int), .slice A n c], .func (.func 77) #[] #[.pointer (some ⟨o + 1, 0, none⟩)], .int .i64 (x.1.1 : Int), .int .i64 (x.1.2 : Int), undef, undef, undef, undef, undef, undef, undef, undef, undef, undef, undef, undef, undef, undef, undef], defers := [] }) ?assign ?body ?done ?stop
  case assign =>
    intro l x W K hK
    gi_wp2
    exact hK
  case body =>
    rintro l pre ⟨⟨i, j⟩, hi, hj⟩ W ⟨i1, i2, i3, i4, i5, i6⟩ _
    dsimp only at hi hj
    obtain ⟨r, hr1, hr2⟩ := okB_at hk'.out (k := i) (by rw [hr.1]; exact hi)
    have hcf := Lib.hid (show b1 (cellF xs i j) = b1 (r.testBit j) by simp only [cellF, hr1, Int.toNat_natCast])
    obtain ⟨b, off, hAe, hb, hc⟩ := (hr.next i1).at_ hi
    rw [hr1] at hc
    have hAe' := Lib.hid hAe
    subst hAe
    have p0 := i2.drew.cell 0
    have p1 := i2.drew.cell 1
    have o0 := i3.drew.cell 0
    have t0 := i4.drew.cell i
    rw [tabC_get hi, if_pos hi] at t0
    have rB := (i5 i hi).drew
    have s0 := rB.icell (k := j) (by rw [tabR_len]; exact hj)
    have f0 := rB.frozen j
    have hcd : W.drew.cell? ⟨b, off + i, none⟩ = some (.int .i64 (r : Int)) := hc
    have hv : bits .and .i64 ((r : Int) / 2 ^ j) 1 = ((b1 (cellF xs i j) : Nat) : Int) := by rw [hcf.out, and_bit r j (by omega), b1]; split <;> rfl
    have hset := Lib.hid (rB.iset j ((b1 (cellF xs i j) : Nat) : Int))
    have hrow := Lib.hid (tabR_set xs pre ⟨(i, j), hi, hj⟩)
    have hoth := Lib.hid (fun k (hk : k ≠ i) => tabR_other xs pre (⟨(i, j), hi, hj⟩ : Cell n m) (i := k) hk)
    have hzW := i3.lt
    gi_wp2
    refine wpIn_region_tailR 14 (by kernel_rfl) (by kernel_rfl) (by rintro ⟨_, _, h⟩; exact h) (by kernel_rfl) ?_
    simp only [List.take_succ_cons, List.take_zero, List.drop_succ_cons, List.drop_zero]
    repeat still_step
    try refine wpStill_nil ?_
    generalize ((b1 (cellF xs i j) : Nat) : Int) = v at hset hrow ⊢
    go_wp2
    have hgr : W.grownBy (W.drew.setCell ⟨g + 1 + i, j, none⟩ (.int .i64 v)) (some (g + 1 + i)) := grown_trans (grown_drew _) (grown_set _)
    refine ⟨KeepsFrom.of_grownBy hgr (by rintro _ ⟨⟩; omega), KB.of_grown hgr (by omega) (by intro e; injection e; omega), lo_grown i1 hgr (by rintro _ ⟨⟩; omega), i2.grown hgr (by intro e; injection e; omega), i3.grown hgr (by intro e; injection e; omega), i4.grown hgr (by intro e; injection e; omega), fun k hk => ?_, Nat.le_trans i6 hgr.size⟩
    by_cases hki : k = i
    · subst hki
      rw [← hrow.out]
      exact hset.out
    · rw [hoth.out k hki]
      exact (i5 k hk).grown hgr (by intro e; injection e; omega)
  case done =>
    rintro D ys W hD rfl ⟨i1, i2, i3, i4, i5, i6⟩ hKD
    have o0 := i3.cell 0
    have hB9 := i1.trans (belowK_b (w := w) (Nat.le_refl _) _ D _ (.deferred none) (by omega) hKD rfl rfl)
    have hT9 : Tab (W.putObj D (.deferred none)) g m n (rowR xs m) := ⟨i4.ownF (grownBy_putObj' _ D (.deferred none)) (fun r e => by cases e; exact ⟨_, hKD, rfl⟩), fun i hi => ⟨by
      rw [← tabR_done xs hi]
      exact (i5 i hi).ownF (grownBy_putObj' _ D (.deferred none)) (fun r e => by cases e; exact ⟨_, hKD, rfl⟩), by simp [rowR]⟩⟩
    go_wp2
    refine ⟨by simp, .inl ⟨_, _, rfl, run_takeDeferred hKD, ?_⟩⟩
    exact ⟨.tuple #[.slice (some ⟨g, 0, none⟩) n n, .bool true], by simp [results, Tryz.results52, go_sem], g, rfl, by omega, hT9, hB9⟩
  case stop =>
    rintro D cc pre W _ _ h _
    exact h.elim
end Go.Proofs.YtpeiolimdglmhaaGreatDoor

-- Walks: lines of a direction; line sums of a table.
namespace Go.Proofs.YtpeiolimdglmhaaGreatDoor
open Go.RowKit
set_option maxRecDepth 100000

/-- the steps of the directions lie in their variable -/
def Dir (w : World) : Prop := ∀ d, d < 8 → w.cell? ⟨0, d * 2, none⟩ = some (.int .i64 (stpX d)) ∧ w.cell? ⟨0, d * 2 + 1, none⟩ = some (.int .i64 (stpY d))
theorem Dir.next {w w' : World} (h : Dir w) (hb : Below w.heap.size w w') : Dir w' := fun d hd =>
  ⟨(hb.cell (World.block_lt_of_cell? _ _ (h d hd).1)).trans (h d hd).1, (hb.cell (World.block_lt_of_cell? _ _ (h d hd).2)).trans (h d hd).2⟩
theorem Dir.grown {w w' : World} (h : Dir w) {row : Option Nat} (hg : w.grownBy w' row) (hr : row ≠ some 0) : Dir w' := fun d hd => by
  have h1 := (h d hd).1
  have h2 := (h d hd).2
  have hl := World.block_lt_of_cell? _ _ h1
  have hl2 := World.block_lt_of_cell? _ _ h2
  exact ⟨(World.cell?_of_block (hg.block _ hl (fun e => hr e.symm))).trans h1, (World.cell?_of_block (hg.block _ hl2 (fun e => hr e.symm))).trans h2⟩
def stpOk (d i : Nat) : Bool := decide (-100 ≤ stpX d * (i : Int)) && decide (stpX d * (i : Int) ≤ 100) && decide (-100 ≤ stpY d * (i : Int)) && decide (stpY d * (i : Int) ≤ 100)
theorem stp_all : ((List.range 8).all fun d => (List.range 10).all fun i => stpOk d i) = true := by decide +kernel
theorem stp_bd {d i : Nat} (hd : d < 8) (hi : i < 10) : -100 ≤ stpX d * (i : Int) ∧ stpX d * (i : Int) ≤ 100 ∧ -100 ≤ stpY d * (i : Int) ∧ stpY d * (i : Int) ≤ 100 := by
  have h1 := List.all_eq_true.1 stp_all d (List.mem_range.2 hd)
  have h2 := List.all_eq_true.1 h1 i (List.mem_range.2 hi)
  simp only [stpOk, Bool.and_eq_true, decide_eq_true_eq, and_assoc] at h2
  exact h2

set_option maxHeartbeats 4000000 in
theorem lineOf_c (d i j : Nat) (w : World) (hd : d < 8) (hi : i < 10) (hj : j < 10) (hD : Dir w) :
    Calls Tryz.prog 97 #[.int .i64 (d : Int), .int .i64 (i : Int), .int .i64 (j : Int)] w fun e w' => e = .returned (.int .i64 (lnD d i j)) ∧ Below w.heap.size w w' := by
  obtain ⟨c0, c1⟩ := hD d hd
  obtain ⟨b1, b2, _, _⟩ := stp_bd hd hi
  obtain ⟨_, _, b3, b4⟩ := stp_bd hd hj
  have hT := Lib.hid (show lnD d i j = stpX d * (i : Int) - stpY d * (j : Int) from rfl)
  generalize stpX d = x at c0 b1 b2 hT
  generalize stpY d = y at c1 b3 b4 hT
  have w1 : IntKind.i64.wrap (x * (i : Int)) = x * (i : Int) := IntWalk.i64_in _ (by omega)
  have w2 : IntKind.i64.wrap (y * (j : Int)) = y * (j : Int) := IntWalk.i64_in _ (by omega)
  have w3 : IntKind.i64.wrap (x * (i : Int) - y * (j : Int)) = x * (i : Int) - y * (j : Int) := IntWalk.i64_in _ (by omega)
  have d0 : w.drew.cell? ⟨0, d * 2, none⟩ = some (.int .i64 x) := c0
  have d1 : w.drew.cell? ⟨0, d * 2 + 1, none⟩ = some (.int .i64 y) := c1
  go_enter Tryz.func97, Tryz.ntmps97
  go_wp2
  go_quiet (fail)
  go_wp2
  go_ret
  rw [hT.out]
  exact ⟨rfl, below_drewN (Below.refl _ _) _⟩

theorem ite_min (x y : Int) : (if y < x then y else x) = min x y := by rw [Int.min_def]; split <;> split <;> omega
theorem ite_max (x y : Int) : (if x < y then y else x) = max x y := by rw [Int.max_def]; split <;> split <;> omega
theorem min4 (a b c d : Int) (w : World) : (Builtin.min_ #[3, 3, 3, 3] 3 #[.int .i64 a, .int .i64 b, .int .i64 c, .int .i64 d]).run Tryz.prog w = .ok (.int .i64 (min (min (min a b) c) d)) w := by
  simp [Builtin.min_, Builtin.min2, ← ite_min]
theorem max4 (a b c d : Int) (w : World) : (Builtin.max_ #[3, 3, 3, 3] 3 #[.int .i64 a, .int .i64 b, .int .i64 c, .int .i64 d]).run Tryz.prog w = .ok (.int .i64 (max (max (max a b) c) d)) w := by
  simp [Builtin.max_, Builtin.max2, ← ite_max]
set_option maxHeartbeats 4000000 in
theorem linesOf_c (d h m : Nat) (w : World) (hd : d < 8) (hh : 1 ≤ h ∧ h ≤ 6) (hm : 1 ≤ m ∧ m ≤ 6) (hD : Dir w) :
    Calls Tryz.prog 96 #[.int .i64 (d : Int), .int .i64 (h : Int), .int .i64 (m : Int)] w fun e w' => e = .returned (.tuple #[.int .i64 (loD d h m), .int .i64 (hiD d h m)]) ∧ Below w.heap.size w w' := by
  have e1 : (h : Int) - 1 = ((h - 1 : Nat) : Int) := by omega
  have e2 : (m : Int) - 1 = ((m - 1 : Nat) : Int) := by omega
  have hlo := Lib.hid (show loD d h m = min (min (min 0 (lnD d (h - 1) 0)) (lnD d 0 (m - 1))) (lnD d (h - 1) (m - 1)) from rfl)
  have hhi := Lib.hid (show hiD d h m = max (max (max 0 (lnD d (h - 1) 0)) (lnD d 0 (m - 1))) (lnD d (h - 1) (m - 1)) from rfl)
  go_enter Tryz.func96, Tryz.ntmps96
  go_wp2_with fail
  refine (lineOf_c d (h - 1) 0 _ hd (by omega) (by omega) hD).mono ?_
  generalize lnD d (h - 1) 0 = a at hlo hhi
  rintro e w1 ⟨rfl, hb1⟩
  go_wp2_with fail
  refine (lineOf_c d 0 (m - 1) _ hd (by omega) (by omega) (hD.next hb1)).mono ?_
  generalize lnD d 0 (m - 1) = b at hlo hhi
  rintro e w2 ⟨rfl, hb2⟩
  have hb12 := lo_trans hb1 hb2
  go_wp2_with fail
  refine (lineOf_c d (h - 1) (m - 1) _ hd (by omega) (by omega) (hD.next hb12)).mono ?_
  generalize lnD d (h - 1) (m - 1) = c at hlo hhi
  rintro e w3 ⟨rfl, hb3⟩
  have hmin := min4 0 a b c
  have hmax := max4 0 a b c
  rw [← hlo.out] at hmin
  rw [← hhi.out] at hmax
  go_wp2
  go_ret2
  exact ⟨rfl, lo_trans hb12 hb3⟩
end Go.Proofs.YtpeiolimdglmhaaGreatDoor

-- Walks: a table is valid; its line sums; the line sums of an image.
namespace Go.Proofs.YtpeiolimdglmhaaGreatDoor
open Go.RowKit
set_option maxRecDepth 100000

theorem Tab.next {w w' : World} {g m h : Nat} {rows : Nat → List Int} (h1 : Tab w g m h rows) (hb : Below w.heap.size w w') : Tab w' g m h rows := ⟨h1.1.next hb, fun i hi => ⟨(h1.2 i hi).1.next hb, (h1.2 i hi).2⟩⟩
theorem Tab.lt {w : World} {g m h : Nat} {rows : Nat → List Int} (h1 : Tab w g m h rows) : ∀ i, i < h → g + 1 + i < w.heap.size := fun i hi => (h1.2 i hi).1.lt
theorem Tab.row {w : World} {g m h i : Nat} {rows : Nat → List Int} (h1 : Tab w g m h rows) (hi : i < h) : w.cell? ⟨g, i, none⟩ = some (.slice (some ⟨g + 1 + i, 0, none⟩) m m) := by
  rw [h1.1.cell, tabC_get hi, if_pos hi]
theorem rowR_at (xs : List Int) {m i j : Nat} (hj : j < m) : (rowR xs m i)[j]?.getD 0 = ((b1 (cellF xs i j) : Nat) : Int) := by simp [rowR, hj]

set_option maxHeartbeats 4000000 in
theorem TableValid_c (g m h : Nat) (xs : List Int) (w : World) (hT : Tab w g m h (rowR xs m)) (hh : 1 ≤ h ∧ h ≤ 6) (hm : 1 ≤ m ∧ m ≤ 6) :
    Calls Tryz.prog 95 #[.slice (some ⟨g, 0, none⟩) h h] w fun e w' => e = .returned (.bool true) ∧ w' = w := by
  have t0 := hT.row (i := 0) (by omega)
  go_enter Tryz.func95, Tryz.ntmps95
  go_wp2
  go_loop [31] (fun i => ∃ k : Nat, k ≤ h ∧ i = .int .i64 k) (fun i => h - (intOf i).toNat)
  case atStart => exact ⟨0, Nat.zero_le _, rfl⟩
  case round =>
    obtain ⟨k, hk, rfl⟩ := hrel
    by_cases hlt : k < h
    · have tk := hT.row hlt
      have hR := (hT.2 k hlt).1
      go_wp2
      go_loop [44] (fun j => ∃ q : Nat, q ≤ m ∧ j = .int .i64 q) (fun j => m - (intOf j).toNat)
      case atStart => exact ⟨0, Nat.zero_le _, rfl⟩
      case round =>
        obtain ⟨q, hq, rfl⟩ := hrel
        by_cases hlt2 : q < m
        · have c0 := hR.icell (k := q) (by simp [rowR]; omega)
          rw [rowR_at xs hlt2] at c0
          have hb := b1_le (cellF xs k q)
          generalize b1 (cellF xs k q) = v at c0 hb
          have g1 : decide ((v : Int) < -999) = false := by simp; try omega
          have g2 : decide ((999 : Int) < (v : Int)) = false := by simp; try omega
          go_wp2
          exact ⟨⟨q + 1, by omega, by go_num⟩, by simp [intOf]; omega⟩
        · obtain rfl : q = m := by omega
          go_wp2
          exact ⟨⟨k + 1, by omega, by go_num⟩, by simp [intOf]; omega⟩
    · obtain rfl : k = h := by omega
      go_wp2
      go_ret
      exact ⟨rfl, rfl⟩

theorem isDir_c (d : Int) (w : World) : Calls Tryz.prog 86 #[.int .i64 d] w fun e w' => e = .returned (.bool (dirB d)) ∧ w' = w := by
  have hT := Lib.hid (show dirB d = (decide (0 ≤ d) && decide (d < 8)) from rfl)
  by_cases h0 : 0 ≤ d
  · have g0 : decide (0 ≤ d) = true := decide_eq_true h0
    go_enter Tryz.func86, Tryz.ntmps86
    go_wp2
    go_ret
    exact ⟨ret_bool (by rw [hT.out, g0]; simp), rfl⟩
  · have g0 : decide (0 ≤ d) = false := decide_eq_false h0
    go_enter Tryz.func86, Tryz.ntmps86
    go_wp2
    go_ret
    exact ⟨ret_bool (by rw [hT.out, g0]; simp), rfl⟩

/-- the line sums, none where there is no such direction -/
def dirL (d : Int) (m : Nat) (xs : List Int) : List Int := if dirB d then dirS d.toNat m xs else []
set_option maxHeartbeats 8000000 in
theorem TableSums_c (g m h : Nat) (d : Int) (xs : List Int) (w : World) (hT : Tab w g m h (rowR xs m)) (hx : xs.length = h) (hh : 1 ≤ h ∧ h ≤ 6) (hm : 1 ≤ m ∧ m ≤ 6) (hD : Dir w) :
    Calls Tryz.prog 53 #[.slice (some ⟨g, 0, none⟩) h h, .int .i64 d] w fun e w' => ∃ (R : Option Addr) (r c : Nat), e = .returned (.slice R r c) ∧ Own w' w.heap.size R r (dirL d m xs) ∧ Below w.heap.size w w' := by
  cases hd : dirB d with
  | false =>
    have hd' := Lib.hid hd
    have hL0 := Lib.hid (show dirL d m xs = [] by rw [dirL, hd]; rfl)
    clear hd
    go_enter Tryz.func53, Tryz.ntmps53
    go_wp2_with fail
    refine (TableValid_c g m h xs _ hT hh hm).mono ?_
    rintro e w1 ⟨rfl, rfl⟩
    go_wp2_with fail
    refine (isDir_c d _).mono ?_
    rw [hd'.out]
    rintro e w2 ⟨rfl, rfl⟩
    go_wp2
    go_ret
    exact ⟨none, 0, 0, rfl, by rw [hL0.out]; exact Own.nil_ _ _ _, Below.refl _ _⟩
  | true =>
    have hd' := Lib.hid hd
    obtain ⟨d, rfl⟩ : ∃ x : Nat, d = (x : Int) := ⟨d.toNat, by simp [dirB] at hd; omega⟩
    have hd8 : d < 8 := by simp [dirB] at hd; omega
    have hfin := Lib.hid (show dirL (d : Int) m xs = dst xs d h m h 0 by rw [dirL, hd, if_pos rfl, Int.toNat_natCast, dirS, hx])
    have hN := lnK_lt hd8 hh.2 hm.2 (i := 0) (j := 0) (by omega) (by omega)
    obtain ⟨l1, l2, l3, l4, l5, l6⟩ := ln_range d hd8 h (by omega) m (by omega) 0 (by omega) 0 (by omega)
    have hNe : hiD d h m - loD d h m + 1 = ((nD d h m : Nat) : Int) := by unfold nD; omega
    have hK := Lib.hid (fun i j (hi : i < h) (hj : j < m) => lnK_lt (i := i) (j := j) hd8 hh.2 hm.2 hi hj)
    have hS := Lib.hid (fun i j (hi : i < h) (hj : j < m) => dst_set (xs := xs) (i := i) (j := j) hd8 hh.2 hm.2 hi hj)
    have hz := Lib.hid (dst_zero xs d h m)
    have hlen := Lib.hid (fun i j => dst_len xs d h m i j)
    have hnx := Lib.hid (fun i => dst_next xs d h m i)
    have hval := Lib.hid (fun i j k (hk : k < nD d h m) => (dst_get (xs := xs) (d := d) (h := h) (m := m) (i := i) (j := j) hk))
    clear hd l1 l2
    generalize hlo : loD d h m = lo at hNe hK l3 l4 hval
    generalize hhi : hiD d h m = hi at hNe l5 l6
    have hlo' := Lib.hid hlo
    have hhi' := Lib.hid hhi
    obtain ⟨N, hNN⟩ : ∃ N, Hid (nD d h m = N) := ⟨_, Lib.hid rfl⟩
    rw [hNN.out] at hNe hK hval hlen hz hN
    obtain ⟨_, _, hN35⟩ := hN
    have eN : wrap64 (wrap64 (hi - lo) + 1) = (N : Int) := by
      rw [IntWalk.wrap64_in (hi - lo) (by omega), IntWalk.wrap64_in _ (by omega)]; exact hNe
    have hmk := make_row N (by omega)
    clear hlo hhi
    go_enter Tryz.func53, Tryz.ntmps53
    go_wp2_with fail
    refine (TableValid_c g m h xs _ hT hh hm).mono ?_
    rintro e w1 ⟨rfl, rfl⟩
    go_wp2_with fail
    refine (isDir_c (d : Int) _).mono ?_
    rw [hd'.out]
    rintro e w2 ⟨rfl, rfl⟩
    have t0 := hT.row (i := 0) (by omega)
    go_wp2_with fail
    refine (linesOf_c d h m _ hd8 hh hm hD).mono ?_
    rw [hlo'.out, hhi'.out]
    rintro e w3 ⟨rfl, hb3⟩
    have hO3 := Blk.new w3 3 (madeCells #[.int .i64 0] N)
    have hB3 := lo_alloc hb3 (.cells (madeCells #[.int .i64 0] N) 3)
    rw [made_ints, ← hz.out] at hO3
    rw [made_ints, ← hz.out] at hB3
    have hs3 := hb3.size
    go_wp2
    rw [made_ints, ← hz.out]
    obtain ⟨o, ho⟩ : ∃ o, o = w3.heap.size := ⟨_, rfl⟩
    rw [← ho] at hO3 hs3 ⊢
    have ho1 : w2.heap.size ≤ o := by omega
    generalize w3.alloc (.cells (ints (dst xs d h m 0 0)) 3) = w4 at hO3 hB3 ⊢
    clear ho hb3 hs3 hmk t0
    go_loopw [38] (fun i wr => ∃ k : Nat, k ≤ h ∧ i = .int .i64 k ∧ Blk wr o 3 (ints (dst xs d h m k 0)) ∧ Below w2.heap.size w2 wr) (fun i _ => h - (intOf i).toNat)
    case atStart => exact ⟨0, Nat.zero_le _, rfl, hO3, hB3⟩
    case round =>
      clear hO3 hB3
      obtain ⟨k, hk, rfl, hO, hB⟩ := hrel
      by_cases hlt : k < h
      · have hTr := hT.next hB
        have tk := hTr.row hlt
        clear hTr
        go_wp2
        go_loopw [45] (fun j wr => ∃ q : Nat, q ≤ m ∧ j = .int .i64 q ∧ Blk wr o 3 (ints (dst xs d h m k q)) ∧ Below w2.heap.size w2 wr) (fun j _ => m - (intOf j).toNat)
        case atStart => exact ⟨0, Nat.zero_le _, rfl, hO, hB⟩
        case round =>
          clear hO hB tk
          obtain ⟨q, hq, rfl, hO, hB⟩ := hrel
          by_cases hlt2 : q < m
          · have hRr := ((hT.next hB).2 k hlt).1
            have c0 := hRr.icell (k := q) (by simp [rowR]; omega)
            rw [rowR_at xs hlt2] at c0
            have hb1 := b1_le (cellF xs k q)
            obtain ⟨e1, e2, _⟩ := hK.out k q hlt hlt2
            have hst := Lib.hid (hS.out k q hlt hlt2)
            have hvl := hval.out k q _ e1
            have hdc := dcnt_le xs d m k q (lo + (lnK d h m k q : Int))
            have hkm : k * m ≤ 6 * 6 := Nat.mul_le_mul (by omega) (by omega)
            rw [hvl] at hst
            have hlen' := hlen.out k q
            generalize lnK d h m k q = K at e1 e2 hst hvl hdc
            generalize dcnt xs d m k q (lo + (K : Int)) = v at hst hvl hdc
            generalize b1 (cellF xs k q) = n at c0 hb1 hst
            clear hRr
            go_wp2_with fail
            refine (lineOf_c d k q _ hd8 (by omega) (by omega) (hD.next hB)).mono ?_
            have ew : wrap64 (lnD d k q - lo) = (K : Int) := by rw [e2]; exact IntWalk.wrap64_in _ (by omega)
            generalize lnD d k q = ln at e2 ew
            rintro e w5 ⟨rfl, hb5⟩
            have hO5 := hO.next hb5
            have hB5 := lo_trans hB hb5
            have c1 := hO5.icell (k := K) (by rw [hlen']; exact e1)
            rw [hvl] at c1
            have f1 := hO5.frozen K
            have hset := Lib.hid (hO5.iset K ((v : Int) + (n : Int)))
            have hlow := lo_set hB5 (p := ⟨o, K, none⟩) ho1 (.int .i64 ((v : Int) + (n : Int)))
            have eK : ln - lo = (K : Int) := e2
            clear e2 hO hO5 hvl hlen'
            go_wp2
            go_roundw
            case rel =>
              refine ⟨q + 1, by omega, by go_num, ?_, hlow⟩
              rw [← hst.out]
              exact hset.out
            case measure => simp [intOf]; omega
          · obtain rfl : q = m := by omega
            have hO' := Lib.hid hO
            rw [hnx.out k] at hO'
            go_wp2
            go_roundw
            case rel => exact ⟨k + 1, by omega, by go_num, hO'.out, hB⟩
            case measure => simp [intOf]; omega
      · obtain rfl : k = h := by omega
        have hO' := Own.of_blk (lo := w2.heap.size) hO ho1 (hlen.out k 0)
        rw [← hfin.out] at hO'
        go_wp2
        go_ret
        exact ⟨_, _, _, rfl, hO', hB⟩

/-- DirSums -/
def dirW (W : Int) (xs : List Int) (d : Int) : List Int := if okB W xs then dirL d W.toNat xs else []
set_option maxHeartbeats 4000000 in
theorem DirSums_c (W : Int) (A : Option Addr) (n c : Nat) (xs : List Int) (d : Int) (w : World) (hr : Rd w A n xs) (hn : n ≤ 1000) (hD : Dir w) :
    Calls Tryz.prog 20 #[.agg #[.int .i64 W, .slice A n c], .int .i64 d] w fun e w' => ∃ (R : Option Addr) (r c' : Nat), e = .returned (.slice R r c') ∧ Own w' w.heap.size R r (dirW W xs d) ∧ Below w.heap.size w w' := by
  have hB0 := lo_alloc (Below.refl w.heap.size w) (.cells #[.int .i64 W, .slice A n c] 25)
  cases hk : okB W xs with
  | false =>
    have hT := Lib.hid (show dirW W xs d = [] by rw [dirW, hk]; rfl)
    have hno := fun w hr => TableOf_no W A n c xs w hr hn hk
    clear hk
    go_enter Tryz.func20, Tryz.ntmps20
    go_wp2_with fail
    refine (hno _ (hr.next hB0)).mono ?_
    rintro e w1 ⟨rfl, hb1⟩
    go_wp2
    go_ret
    exact ⟨none, 0, 0, rfl, by rw [hT.out]; exact Own.nil_ _ _ _, lo_trans hB0 hb1⟩
  | true =>
    have hbd := okB_bd hk
    obtain ⟨m, rfl⟩ : ∃ m : Nat, W = (m : Int) := ⟨W.toNat, by omega⟩
    have hT := Lib.hid (show dirW (m : Int) xs d = dirL d m xs by rw [dirW, hk, if_pos rfl, Int.toNat_natCast])
    have hxl := hr.1
    rw [hxl] at hbd
    have hxl' := Lib.hid hxl
    have hyes := fun w hr => TableOf_yes m A n c xs w hr hk
    clear hk hxl
    go_enter Tryz.func20, Tryz.ntmps20
    go_wp2_with fail
    refine (hyes _ (hr.next hB0)).mono ?_
    rintro e w1 ⟨g, rfl, hg, hT1, hb1⟩
    have hB1 := lo_trans hB0 hb1
    have hs1 := hB1.size
    go_wp2_with fail
    refine (TableSums_c g m n d xs _ hT1 hxl'.out ⟨by omega, by omega⟩ ⟨by omega, by omega⟩ (hD.next hB1)).mono ?_
    rintro e w2 ⟨R, r, c2, rfl, hO, hb2⟩
    go_wp2
    go_ret
    exact ⟨R, r, c2, rfl, by rw [hT.out]; exact hO.mono hs1, lo_trans hB1 hb2⟩
end Go.Proofs.YtpeiolimdglmhaaGreatDoor
