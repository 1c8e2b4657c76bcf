/- Plain facts and walks that the law's proof uses; each says its own conditions. -/
import Derived.Test.YtpeiolimdglmhaaGreatDoorZ10
import Derived.Test.YtpeiolimdglmhaaGreatDoorZ07
import Derived.RegionTactic
import Derived.Deep.RegionWith
import Derived.StillTailTactics
import Derived.Test.YtpeiolimdglmhaaGreatDoorZ01
-- Plain facts and walks that the law's proof uses; each says its own conditions.
namespace Go.Proofs.YtpeiolimdglmhaaGreatDoor
open Go.RowKit
set_option maxRecDepth 100000

set_option maxHeartbeats 400000 in
theorem emptyImage_c (h m : Nat) (w : World) (hh : h ≤ 1073741824) :
    Calls Tryz.prog 66 #[.int .i64 h, .int .i64 m] w fun e w' => ∃ g, e = .returned (.agg #[.int .i64 m, .slice (some ⟨g, 0, none⟩) h h]) ∧ Below w.heap.size w w' ∧ Blk w' g 3 (ints (List.replicate h 0)) ∧ w.heap.size ≤ g ∧ g < w'.heap.size := by
  have hmk := make_row h hh
  go_enter Tryz.func66, Tryz.ntmps66
  go_wp2
  refine bodyPost_ret (v := .agg #[.int .i64 m, .slice (some ⟨w.heap.size + 1, 0, none⟩) h h]) (by simp [results, Tryz.results66, go_sem]) rfl ⟨_, rfl, ?_, ?_, by omega, by simp⟩
  · (repeat (first | exact Below.refl _ _ | assumption | refine lo_alloc ?_ _ | refine lo_set ?_ (by simp; try omega) _ | refine Below.drew ?_ | refine below_drewN ?_ _ | refine lo_trans ?_ (by assumption) | refine lo_wr ?_ (by assumption) (by omega)))
  · rw [← made_ints]
    exact heap_at2 _ _ _ _

set_option maxHeartbeats 400000 in
theorem flip_c (g n c i j r : Nat) (xs : List Int) (W : Int) (w : World) (hb : Blk w g 3 (ints xs)) (hi : i < n) (hx : i < xs.length) (hj : j < 6) (hr : r < 64) (hc : xs[i]?.getD 0 = (r : Int)) :
    Calls Tryz.prog 69 #[.agg #[.int .i64 W, .slice (some ⟨g, 0, none⟩) n c], .int .i64 i, .int .i64 j] w fun e w' => e = .returned (.tuple #[]) ∧ Blk w' g 3 (ints (xs.set i ((r ^^^ 2 ^ j : Nat) : Int))) ∧ w.grownBy w' (some g) := by
  have hcc := hb.icell hx
  have hff := hb.frozen i
  have hz := hb.lt
  have hp := pow_int (j := j) (by omega)
  have hp' := pow_le64 (j := j) (by omega)
  have hw : wrap64 (2 ^ j) = 2 ^ j := IntWalk.wrap64_in _ (by omega)
  have hX := Lib.hid (show bits .xor .i64 (r : Int) (2 ^ j) = ((r ^^^ 2 ^ j : Nat) : Int) from by
    rw [← i64_xor_nat r (2 ^ j) (by omega) (by omega)]; simp)
  rw [hc] at hcc
  have hs := Lib.hid (hb.iset i ((r ^^^ 2 ^ j : Nat) : Int))
  clear hc
  go_enter Tryz.func69, Tryz.ntmps69
  go_wp2
  go_region
  all_goals go_end0
  all_goals rw [hX.out]
  all_goals exact ⟨rfl, Blk.drew (Blk.alloc hs.out _), grown_trans (grown_trans (grown_set _) (grown_alloc _ _)) (grown_drew _)⟩

/-- what lies in memory while an image is filled: the result's cells, the image's, its rows -/
def WInv (w wr : World) (o g n m : Nat) (xs : List Int) : Prop :=
  Below w.heap.size w wr ∧ Blk wr w.heap.size 25 #[.int .i64 0, .slice none 0 0] ∧ Blk wr o 25 #[.int .i64 m, .slice (some ⟨g, 0, none⟩) n n] ∧ Blk wr g 3 (ints xs)
theorem WInv.step {w wr w3 : World} {o g n m : Nat} {xs ys : List Int} (h : WInv w wr o g n m xs) (h1 : w.heap.size < g) (h2 : g ≠ o) (hg : wr.grownBy w3 (some g)) (hb : Blk w3 g 3 (ints ys)) : WInv w w3 o g n m ys :=
  ⟨lo_grown h.1 hg (by rintro _ ⟨⟩; omega), h.2.1.grown hg (by intro e; injection e; omega), h.2.2.1.grown hg (by intro e; injection e; omega), hb⟩
theorem WInv.cells {w wr : World} {o g n m : Nat} {xs : List Int} (h : WInv w wr o g n m xs) :
    wr.cell? ⟨w.heap.size, 0, none⟩ = some (.int .i64 0) ∧ wr.cell? ⟨w.heap.size, 1, none⟩ = some (.slice none 0 0) ∧ wr.frozen? ⟨w.heap.size, 0, none⟩ = false ∧ wr.frozen? ⟨w.heap.size, 1, none⟩ = false ∧
    wr.cell? ⟨o, 0, none⟩ = some (.int .i64 m) ∧ wr.cell? ⟨o, 1, none⟩ = some (.slice (some ⟨g, 0, none⟩) n n) :=
  ⟨h.2.1.cell 0, h.2.1.cell 1, h.2.1.frozen 0, h.2.1.frozen 1, h.2.2.1.cell 0, h.2.2.1.cell 1⟩

end Go.Proofs.YtpeiolimdglmhaaGreatDoor

-- Walks: the reference's weights.
namespace Go.Proofs.YtpeiolimdglmhaaGreatDoor
open Go.RowKit
set_option maxRecDepth 100000

theorem pow_step (k : Nat) : (2 : Int) ^ (k + 1) = 2 ^ k * 2 := by rw [Int.pow_succ]
theorem pow_bd {k : Nat} (h : k ≤ 61) : (1 : Int) ≤ 2 ^ k ∧ (2 : Int) ^ k ≤ 2305843009213693952 := by
  have h1 : 2 ^ k ≤ 2 ^ 61 := Nat.pow_le_pow_right (by omega) h
  have h2 : 0 < 2 ^ k := Nat.pow_pos (by omega)
  have e : ((2 ^ k : Nat) : Int) = (2 : Int) ^ k := by simp
  omega

set_option maxHeartbeats 400000 in
theorem l1Power_c (a : Int) (w : World) (h0 : 0 ≤ a) (h : a ≤ 60) :
    Calls Tryz.prog 76 #[.int .i64 a] w fun e w' => e = .returned (.int .i64 (2 ^ a.toNat)) ∧ w = w' := by
  obtain ⟨n, rfl⟩ := Int.eq_ofNat_of_zero_le h0
  rw [Int.toNat_natCast]
  go_enter Tryz.func76, Tryz.ntmps76
  go_wp2
  go_loop [3, 4] (fun o i => ∃ k : Nat, k ≤ n ∧ i = .int .i64 k ∧ o = .int .i64 (2 ^ k)) (fun _ i => n - (intOf i).toNat)
  case atStart => exact ⟨0, Nat.zero_le _, rfl, by simp⟩
  case round =>
    obtain ⟨k, hk, rfl, rfl⟩ := hrel
    by_cases hlt : k < n
    · have hp := pow_bd (k := k) (by omega)
      have hs := Lib.hid (pow_step k)
      go_wp2
      go_round
      case rel => exact ⟨k + 1, by omega, by go_num, by rw [hs.out]⟩
      case measure => simp [intOf]; omega
    · obtain rfl : k = n := by omega
      go_wp2
      go_ret
      exact ⟨rfl, rfl⟩

set_option maxHeartbeats 400000 in
theorem l1Bit_c (r j : Nat) (w : World) (hj : j ≤ 60) (hr : r < 9223372036854775807) :
    Calls Tryz.prog 43 #[.int .i64 r, .int .i64 j] w fun e w' => e = .returned (.int .i64 (r / 2 ^ j % 2 : Nat)) ∧ w = w' := by
  have hp := pow_bd (k := j) (by omega)
  have hd : (r : Int) / 2 ^ j = ((r / 2 ^ j : Nat) : Int) := by simp
  have hle : r / 2 ^ j ≤ r := Nat.div_le_self _ _
  generalize r / 2 ^ j = q at hd hle
  go_enter Tryz.func43, Tryz.ntmps43
  go_wp2_with (go_at_call 76; refine (l1Power_c _ _ (by omega) (by omega)).mono ?_; rintro e w' ⟨rfl, rfl⟩)
  go_ret
  exact ⟨ret_int (by simp), rfl⟩

set_option maxHeartbeats 400000 in
theorem l6In_c (n lo hi : Int) (w : World) :
    Calls Tryz.prog 56 #[.int .i64 n, .int .i64 lo, .int .i64 hi] w fun e w' => e = .returned (.bool (decide (lo ≤ n) && decide (n ≤ hi))) ∧ w = w' := by
  by_cases h : lo ≤ n
  all_goals
    go_enter Tryz.func56, Tryz.ntmps56
    go_wp2
    go_ret
    exact ⟨ret_bool (by rw [Bool.eq_iff_iff]; simp; try omega), rfl⟩

/-- a region that reads and calls quietly ahead of its last operations: the world behind the draw under its own name -/
theorem region_tail {P : Program} {id : Nat} {Q : Exit → Act → World → Prop} {a : Act} {w : World} {l : List Oper} (n : Nat) (hm : P.follows .mixedOrders = true) (hB : Region.lexTailB .any l.toArray n = true)
    (h : wpStill P l.toArray w.drew (fun a' => wpList P l.toArray Q (l.drop n) a' w.drew) (l.take n) a) : (Code.region id l.toArray true).wp P Q a w := wp_region_still_tail n hm hB h

/-- the row with its cell j set, or not -/
def put (r j : Nat) (b : Bool) : Nat := r - r / 2 ^ j % 2 * 2 ^ j + (if b then 2 ^ j else 0)
theorem bit_le (r j : Nat) : r / 2 ^ j % 2 * 2 ^ j ≤ r := by
  have h1 : r / 2 ^ j % 2 ≤ r / 2 ^ j := Nat.mod_le _ _
  calc r / 2 ^ j % 2 * 2 ^ j ≤ r / 2 ^ j * 2 ^ j := Nat.mul_le_mul_right _ h1
    _ ≤ r := Nat.div_mul_le_self _ _

theorem put_wrap (r j : Nat) (hr : r < 1073741824) : wrap64 ((r : Int) - wrap64 ((r : Int) / 2 ^ j % 2 * 2 ^ j)) = ((put r j false : Nat) : Int) := by
  have h1 := bit_le r j
  have e : (r : Int) / 2 ^ j % 2 * 2 ^ j = ((r / 2 ^ j % 2 * 2 ^ j : Nat) : Int) := by simp
  rw [e]
  generalize hq : r / 2 ^ j % 2 * 2 ^ j = q at h1 ⊢
  rw [IntWalk.wrap64_in (q : Int) (by omega), IntWalk.wrap64_in _ (by omega)]
  simp only [put, hq]
  simp; omega
theorem put_wrap2 (r j : Nat) (hj : j ≤ 30) (hr : r < 1073741824) : wrap64 ((r : Int) + 2 ^ j) = ((r + 2 ^ j : Nat) : Int) := by
  have h := pow_bd (k := j) (by omega)
  rw [IntWalk.wrap64_in _ (by omega)]
  simp
theorem put_true (r j : Nat) : put r j true = put r j false + 2 ^ j := by simp [put]
theorem put_le (r j : Nat) : put r j false ≤ r := by simp [put]

set_option maxHeartbeats 400000 in
theorem l1Put_c (g n c i j r : Nat) (b : Bool) (xs : List Int) (W : Int) (w : World) (hb : Blk w g 3 (ints xs)) (hi : i < n) (hx : i < xs.length) (hj : j ≤ 30) (hr : r < 1073741824) (hc : xs[i]?.getD 0 = (r : Int)) :
    Calls Tryz.prog 73 #[.agg #[.int .i64 W, .slice (some ⟨g, 0, none⟩) n c], .int .i64 i, .int .i64 j, .bool b] w fun e w' => e = .returned (.tuple #[]) ∧ Blk w' g 3 (ints (xs.set i ((put r j b : Nat) : Int))) ∧ w.grownBy w' (some g) := by
  have hcc := hb.icell hx
  have hff := hb.frozen i
  have hz := hb.lt
  rw [hc] at hcc
  have hp := pow_bd (k := j) (by omega)
  have hr1 := put_le r j
  have hr2 : put r j false < 1073741824 := by omega
  have hj2 : j ≤ 60 := by omega
  have hr3 : r < 9223372036854775807 := by omega
  have hj3 : (j : Int) ≤ 60 := by omega
  have hj4 : (0 : Int) ≤ j := by omega
  have hv := Lib.hid (put_wrap r j hr)
  have hpt := Lib.hid (put_true r j)
  obtain ⟨r1, hpf⟩ : ∃ r1, put r j false = r1 := ⟨_, rfl⟩
  rw [hpf] at hv hr1 hr2 hpt
  have hpf' := Lib.hid hpf; clear hpf
  cases b with
  | false =>
    have hs := Lib.hid (hb.iset i (r1 : Int))
    clear hc
    go_enter Tryz.func73, Tryz.ntmps73
    go_wp2_with fail
    refine region_tail 20 (by kernel_rfl) (by kernel_rfl) ?_
    simp only [List.take_succ_cons, List.take_zero, List.drop_succ_cons, List.drop_zero]
    repeat still_step
    still_call (still_of (l1Bit_c r j _ hj2 hr3))
    repeat still_step
    still_call (still_of (l1Power_c _ _ hj4 hj3))
    repeat still_step
    refine wpStill_nil ?_
    go_wp2_with fail
    rw [hv.out]
    go_end0
    rw [hpf'.out]
    exact ⟨rfl, Blk.drew (Blk.alloc hs.out _), grown_trans (grown_trans (grown_set _) (grown_alloc _ _)) (grown_drew _)⟩
  | true =>
    have hs := Lib.hid (hb.iset i (r1 : Int))
    have hv2 := Lib.hid (put_wrap2 r1 j hj hr2)
    clear hc
    go_enter Tryz.func73, Tryz.ntmps73
    go_wp2_with fail
    refine region_tail 20 (by kernel_rfl) (by kernel_rfl) ?_
    simp only [List.take_succ_cons, List.take_zero, List.drop_succ_cons, List.drop_zero]
    repeat still_step
    still_call (still_of (l1Bit_c r j _ hj2 hr3))
    repeat still_step
    still_call (still_of (l1Power_c _ _ hj4 hj3))
    repeat still_step
    refine wpStill_nil ?_
    go_wp2_with fail
    rw [hv.out]
    have hW := Blk.new (w.setCell ⟨g, i, none⟩ (.int .i64 (r1 : Int))) 25 #[.int .i64 W, .slice (some ⟨g, 0, none⟩) n c]
    have hG := Blk.drew (Blk.alloc hs.out (.cells #[.int .i64 W, .slice (some ⟨g, 0, none⟩) n c] 25))
    have hg : w.grownBy (((w.setCell ⟨g, i, none⟩ (.int .i64 (r1 : Int))).alloc (.cells #[.int .i64 W, .slice (some ⟨g, 0, none⟩) n c] 25))).drew (some g) := grown_trans (grown_trans (grown_set _) (grown_alloc _ _)) (grown_drew _)
    rw [size_setCell] at hW
    generalize ((w.setCell ⟨g, i, none⟩ (.int .i64 (r1 : Int))).alloc (.cells #[.int .i64 W, .slice (some ⟨g, 0, none⟩) n c] 25)) = w2 at hW hG hg ⊢
    have hW1 := hW.drew.cell 1
    have hG1 := hG.icell (k := i) (by simpa using hx)
    have hG2 := hG.frozen i
    have hG3 := Lib.hid (hG.iset i ((r1 + 2 ^ j : Nat) : Int))
    rw [List.set_set, ← hpt.out] at hG3
    simp only [List.getElem?_set_self hx, Option.getD_some] at hG1
    clear hcc hff hs
    generalize w2.drew = w3 at hW1 hG1 hG2 hG3 hg ⊢
    have hv2 := hv2.out
    refine region_tail 12 (by kernel_rfl) (by kernel_rfl) ?_
    simp only [List.take_succ_cons, List.take_zero, List.drop_succ_cons, List.drop_zero]
    repeat still_step
    still_call (still_of (l1Power_c _ _ hj4 hj3))
    repeat still_step
    refine wpStill_nil ?_
    go_wp2_with fail
    go_end0
    rw [show (r1 : Int) + 2 ^ j = ((put r j true : Nat) : Int) from by rw [hpt.out]; simp]
    exact ⟨rfl, Blk.drew hG3.out, grown_trans (grown_trans hg (grown_set _)) (grown_drew _)⟩
end Go.Proofs.YtpeiolimdglmhaaGreatDoor

-- Walks: the reference's weights, its image.
namespace Go.Proofs.YtpeiolimdglmhaaGreatDoor
open Go.RowKit
set_option maxRecDepth 100000

set_option maxHeartbeats 400000 in
theorem l1Blank_c (h m : Nat) (w : World) (hh : h ≤ 1073741824) :
    Calls Tryz.prog 71 #[.int .i64 h, .int .i64 m] w fun e w' => ∃ g, e = .returned (.agg #[.int .i64 m, .slice (some ⟨g, 0, none⟩) h h]) ∧ Below w.heap.size w w' ∧ Blk w' g 3 (ints (List.replicate h 0)) ∧ w.heap.size ≤ g ∧ g < w'.heap.size := by
  have hmk := make_row h hh
  go_enter Tryz.func71, Tryz.ntmps71
  go_wp2
  refine bodyPost_ret (v := .agg #[.int .i64 m, .slice (some ⟨w.heap.size + 1, 0, none⟩) h h]) (by simp [results, Tryz.results71, go_sem]) rfl ⟨_, rfl, ?_, ?_, by omega, by simp⟩
  · (repeat (first | exact Below.refl _ _ | assumption | refine lo_alloc ?_ _ | refine lo_set ?_ (by simp; try omega) _ | refine Below.drew ?_ | refine below_drewN ?_ _ | refine lo_trans ?_ (by assumption) | refine lo_wr ?_ (by assumption) (by omega)))
  · rw [← made_ints]
    exact heap_at2 _ _ _ _

theorem l6In_t {n lo hi : Int} (w : World) (h : lo ≤ n ∧ n ≤ hi) :
    Calls Tryz.prog 56 #[.int .i64 n, .int .i64 lo, .int .i64 hi] w fun e w' => e = .returned (.bool true) ∧ w = w' :=
  (l6In_c n lo hi w).mono fun _ _ ⟨h1, h2⟩ => ⟨by rw [h1]; simp [h.1, h.2], h2⟩
theorem l6In_f {n lo hi : Int} (w : World) (h : n < lo ∨ hi < n) :
    Calls Tryz.prog 56 #[.int .i64 n, .int .i64 lo, .int .i64 hi] w fun e w' => e = .returned (.bool false) ∧ w = w' :=
  (l6In_c n lo hi w).mono fun _ _ ⟨h1, h2⟩ => ⟨by rw [h1]; exact ret_bool (by rw [Bool.and_eq_false_iff]; simp; omega), h2⟩

end Go.Proofs.YtpeiolimdglmhaaGreatDoor

-- Walks: is an image valid, the program's function and the reference's.
namespace Go.Proofs.YtpeiolimdglmhaaGreatDoor
open Go.RowKit
set_option maxRecDepth 100000

set_option maxHeartbeats 1000000 in
theorem impl_ImageValid_c (W : Int) (A : Option Addr) (n c : Nat) (xs : List Int) (w : World) (hr : Rd w A n xs) (hn : n ≤ 1125899906842624) :
    Calls Tryz.prog 37 #[.agg #[.int .i64 W, .slice A n c]] w fun e w' => e = .returned (.bool (okB W xs)) ∧ Below w.heap.size w w' := by
  by_cases h : 1 ≤ W ∧ W ≤ 6 ∧ 1 ≤ n ∧ n ≤ 6
  case neg =>
    have hF := Lib.hid (okB_no (W := W) (xs := xs) (by rw [hr.1]; exact h))
    by_cases h1 : W < 1
    · clear h
      go_enter Tryz.func37, Tryz.ntmps37
      go_wp2
      go_ret
      exact ⟨ret_bool hF.out.symm, by (repeat (first | exact Below.refl _ _ | assumption | refine lo_alloc ?_ _ | refine lo_set ?_ (by simp; try omega) _ | refine Below.drew ?_ | refine below_drewN ?_ _ | refine lo_trans ?_ (by assumption) | refine lo_wr ?_ (by assumption) (by omega)))⟩
    · by_cases h2 : 6 < W
      · clear h
        go_enter Tryz.func37, Tryz.ntmps37
        go_wp2
        go_ret
        exact ⟨ret_bool hF.out.symm, by (repeat (first | exact Below.refl _ _ | assumption | refine lo_alloc ?_ _ | refine lo_set ?_ (by simp; try omega) _ | refine Below.drew ?_ | refine below_drewN ?_ _ | refine lo_trans ?_ (by assumption) | refine lo_wr ?_ (by assumption) (by omega)))⟩
      · by_cases h3 : n < 1
        · clear h
          go_enter Tryz.func37, Tryz.ntmps37
          go_wp2
          go_ret
          exact ⟨ret_bool hF.out.symm, by (repeat (first | exact Below.refl _ _ | assumption | refine lo_alloc ?_ _ | refine lo_set ?_ (by simp; try omega) _ | refine Below.drew ?_ | refine below_drewN ?_ _ | refine lo_trans ?_ (by assumption) | refine lo_wr ?_ (by assumption) (by omega)))⟩
        · have h4 : 6 < n := by omega
          clear h
          go_enter Tryz.func37, Tryz.ntmps37
          go_wp2
          go_ret
          exact ⟨ret_bool hF.out.symm, by (repeat (first | exact Below.refl _ _ | assumption | refine lo_alloc ?_ _ | refine lo_set ?_ (by simp; try omega) _ | refine Below.drew ?_ | refine below_drewN ?_ _ | refine lo_trans ?_ (by assumption) | refine lo_wr ?_ (by assumption) (by omega)))⟩
  have hE := Lib.hid (okB_eq (W := W) (xs := xs) (by rw [hr.1]; exact h))
  obtain ⟨hW1, hW2, hn1, hn2⟩ := h
  obtain ⟨q, rfl⟩ := Int.eq_ofNat_of_zero_le (show 0 ≤ W by omega)
  rw [Int.toNat_natCast] at hE
  have hp := pow_int (j := q) (by omega)
  go_enter Tryz.func37, Tryz.ntmps37
  go_wp2
  go_loop [28] (fun i => ∃ k : Nat, k ≤ n ∧ i = .int .i64 k ∧ Hid (∀ j, j < k → 0 ≤ xs[j]?.getD 0 ∧ xs[j]?.getD 0 ≤ 2 ^ q - 1)) (fun i => n - (intOf i).toNat)
  case atStart => exact ⟨0, Nat.zero_le _, rfl, Lib.hid (fun j h => absurd h (by omega))⟩
  case round =>
    obtain ⟨k, hk, rfl, hall⟩ := hrel
    by_cases hlt : k < n
    · obtain ⟨b, off, rfl, hb, hc⟩ := (hr.alloc (.cells #[.int .i64 q, .slice A n c] 25)).at_ hlt
      by_cases h1 : xs[k]?.getD 0 < 0
      · have hF := Lib.hid (show okB q xs = false by rw [hE.out]; exact allIn_no (by rw [hr.1]; exact hlt) (by omega))
        go_wp2
        go_ret
        exact ⟨ret_bool hF.out.symm, by (repeat (first | exact Below.refl _ _ | assumption | refine lo_alloc ?_ _ | refine lo_set ?_ (by simp; try omega) _ | refine Below.drew ?_ | refine below_drewN ?_ _ | refine lo_trans ?_ (by assumption) | refine lo_wr ?_ (by assumption) (by omega)))⟩
      · by_cases h2 : 2 ^ q ≤ xs[k]?.getD 0
        · have hF := Lib.hid (show okB q xs = false by rw [hE.out]; exact allIn_no (by rw [hr.1]; exact hlt) (by omega))
          go_wp2
          go_ret
          exact ⟨ret_bool hF.out.symm, by (repeat (first | exact Below.refl _ _ | assumption | refine lo_alloc ?_ _ | refine lo_set ?_ (by simp; try omega) _ | refine Below.drew ?_ | refine below_drewN ?_ _ | refine lo_trans ?_ (by assumption) | refine lo_wr ?_ (by assumption) (by omega)))⟩
        · have hN : Hid (∀ j, j < k + 1 → 0 ≤ xs[j]?.getD 0 ∧ xs[j]?.getD 0 ≤ 2 ^ q - 1) := Lib.hid (fun j hj => by
            rcases Nat.lt_or_ge j k with h | h
            · exact hall.out j h
            · obtain rfl : j = k := by omega
              omega)
          go_wp2
          go_round
          case rel => exact ⟨k + 1, by omega, by go_num, hN⟩
          case measure => simp [intOf]; omega
    · obtain rfl : k = n := by omega
      have hF := Lib.hid (show okB q xs = true by rw [hE.out]; exact allIn_of (by rw [hr.1]; exact hall.out))
      go_wp2
      go_ret
      exact ⟨ret_bool hF.out.symm, by (repeat (first | exact Below.refl _ _ | assumption | refine lo_alloc ?_ _ | refine lo_set ?_ (by simp; try omega) _ | refine Below.drew ?_ | refine below_drewN ?_ _ | refine lo_trans ?_ (by assumption) | refine lo_wr ?_ (by assumption) (by omega)))⟩

set_option maxHeartbeats 1000000 in
theorem spec_ImageValid_c (W : Int) (A : Option Addr) (n c : Nat) (xs : List Int) (w : World) (hr : Rd w A n xs) (hn : n ≤ 1125899906842624) :
    Calls Tryz.prog 42 #[.agg #[.int .i64 W, .slice A n c]] w fun e w' => e = .returned (.bool (okB W xs)) ∧ Below w.heap.size w w' := by
  by_cases h : 1 ≤ W ∧ W ≤ 6 ∧ 1 ≤ n ∧ n ≤ 6
  case neg =>
    have hF := Lib.hid (okB_no (W := W) (xs := xs) (by rw [hr.1]; exact h))
    by_cases h1 : 1 ≤ W ∧ W ≤ 6
    · have h2 : (n : Int) < 1 ∨ 6 < (n : Int) := by omega
      have h2' := Lib.hid h2
      clear h h2
      go_enter Tryz.func42, Tryz.ntmps42
      go_wp2_with fail
      refine (l6In_t _ h1).mono ?_; rintro e w' ⟨rfl, rfl⟩
      go_wp2_with fail
      refine (l6In_f _ h2'.out).mono ?_; rintro e w' ⟨rfl, rfl⟩
      go_wp2
      go_ret
      exact ⟨ret_bool hF.out.symm, by (repeat (first | exact Below.refl _ _ | assumption | refine lo_alloc ?_ _ | refine lo_set ?_ (by simp; try omega) _ | refine Below.drew ?_ | refine below_drewN ?_ _ | refine lo_trans ?_ (by assumption) | refine lo_wr ?_ (by assumption) (by omega)))⟩
    · have h2' := Lib.hid (show W < 1 ∨ 6 < W by omega)
      clear h h1
      go_enter Tryz.func42, Tryz.ntmps42
      go_wp2_with fail
      refine (l6In_f _ h2'.out).mono ?_; rintro e w' ⟨rfl, rfl⟩
      go_wp2
      go_ret
      exact ⟨ret_bool hF.out.symm, by (repeat (first | exact Below.refl _ _ | assumption | refine lo_alloc ?_ _ | refine lo_set ?_ (by simp; try omega) _ | refine Below.drew ?_ | refine below_drewN ?_ _ | refine lo_trans ?_ (by assumption) | refine lo_wr ?_ (by assumption) (by omega)))⟩
  have hE := Lib.hid (okB_eq (W := W) (xs := xs) (by rw [hr.1]; exact h))
  obtain ⟨hW1, hW2, hn1, hn2⟩ := h
  obtain ⟨q, rfl⟩ := Int.eq_ofNat_of_zero_le (show 0 ≤ W by omega)
  rw [Int.toNat_natCast] at hE
  have hp := pow_int (j := q) (by omega)
  go_enter Tryz.func42, Tryz.ntmps42
  go_wp2_with fail
  refine (l6In_t _ (by omega)).mono ?_; rintro e w' ⟨rfl, rfl⟩
  go_wp2_with fail
  refine (l6In_t _ (by omega)).mono ?_; rintro e w' ⟨rfl, rfl⟩
  have hk0 := Blk.new w 25 #[.int .i64 q, .slice A n c]
  have hb0 := lo_alloc (Below.refl w.heap.size w) (.cells #[.int .i64 q, .slice A n c] 25)
  go_wp2
  go_loopw [3] (fun i wr => ∃ k : Nat, k ≤ n ∧ i = .int .i64 k ∧ Below w.heap.size w wr ∧ Blk wr w.heap.size 25 #[.int .i64 q, .slice A n c] ∧ Hid (∀ j, j < k → 0 ≤ xs[j]?.getD 0 ∧ xs[j]?.getD 0 ≤ 2 ^ q - 1)) (fun i _ => n - (intOf i).toNat)
  case atStart => exact ⟨0, Nat.zero_le _, rfl, hb0, hk0, Lib.hid (fun j h => absurd h (by omega))⟩
  case round =>
    clear hk0 hb0
    obtain ⟨k, hk, rfl, hB, hK, hall⟩ := hrel
    have c0 := hK.cell 0
    have c1 := hK.cell 1
    by_cases hlt : k < n
    · obtain ⟨b, off, rfl, hb, hc⟩ := (hr.next hB).at_ hlt
      by_cases h1 : 0 ≤ xs[k]?.getD 0 ∧ xs[k]?.getD 0 ≤ 2 ^ q - 1
      · have hN : Hid (∀ j, j < k + 1 → 0 ≤ xs[j]?.getD 0 ∧ xs[j]?.getD 0 ≤ 2 ^ q - 1) := Lib.hid (fun j hj => by
            rcases Nat.lt_or_ge j k with h | h
            · exact hall.out j h
            · obtain rfl : j = k := by omega
              omega)
        go_wp2
        go_quiet ((first | (go_at_call 76; exact Calls.quiet_of_same (still_of (l1Power_c q _ (by omega) (by omega)))) | (go_at_call 56; exact Calls.quiet_of_same (still_of (l6In_t _ h1)))))
        go_wp2
        go_roundw
        case rel => exact ⟨k + 1, by omega, by go_num, below_drewN hB _, hK.drewN _, hN⟩
        case measure => simp [intOf]; omega
      · have h2 : xs[k]?.getD 0 < 0 ∨ 2 ^ q - 1 < xs[k]?.getD 0 := by omega
        have h2' := Lib.hid h2
        have hF := Lib.hid (show okB q xs = false by rw [hE.out]; exact allIn_no (by rw [hr.1]; exact hlt) h1)
        clear h1 h2
        go_wp2
        go_quiet ((first | (go_at_call 76; exact Calls.quiet_of_same (still_of (l1Power_c q _ (by omega) (by omega)))) | (go_at_call 56; exact Calls.quiet_of_same (still_of (l6In_f _ h2'.out)))))
        go_wp2
        go_ret
        exact ⟨ret_bool hF.out.symm, below_drewN hB _⟩
    · obtain rfl : k = n := by omega
      have hF := Lib.hid (show okB q xs = true by rw [hE.out]; exact allIn_of (by rw [hr.1]; exact hall.out))
      go_wp2
      go_ret
      exact ⟨ret_bool hF.out.symm, hB⟩

set_option maxHeartbeats 1000000 in
theorem sameImage_c (W V : Int) (A B : Option Addr) (n m c d : Nat) (xs ys : List Int) (w : World) (hr : Rd w A n xs) (hs : Rd w B m ys) (hn : n ≤ 1073741824) :
    Calls Tryz.prog 90 #[.agg #[.int .i64 W, .slice A n c], .agg #[.int .i64 V, .slice B m d]] w fun e w' => e = .returned (.bool (decide (W = V) && decide (xs = ys))) ∧ Below w.heap.size w w' := by
  by_cases h : W = V
  · have h' : (W == V) = true := beq_iff_eq.2 h
    have hh := Lib.hid h; clear h
    go_enter Tryz.func90, Tryz.ntmps90
    go_wp2_with fail
    refine (slicesEqual_c _ _ _ _ _ _ xs ys _ ((hr.alloc _).alloc _) ((hs.alloc _).alloc _) hn).mono ?_
    rintro e w1 ⟨rfl, hb⟩
    go_wp2
    go_ret
    exact ⟨ret_bool (by rw [hh.out]; simp), by (repeat (first | exact Below.refl _ _ | assumption | refine lo_alloc ?_ _ | refine lo_set ?_ (by simp; try omega) _ | refine Below.drew ?_ | refine below_drewN ?_ _ | refine lo_trans ?_ (by assumption) | refine lo_wr ?_ (by assumption) (by omega)))⟩
  · have h' : (W == V) = false := beq_eq_false_iff_ne.2 h
    have hh := Lib.hid h; clear h
    go_enter Tryz.func90, Tryz.ntmps90
    go_wp2
    go_ret
    exact ⟨ret_bool (by simp [hh.out]), by (repeat (first | exact Below.refl _ _ | assumption | refine lo_alloc ?_ _ | refine lo_set ?_ (by simp; try omega) _ | refine Below.drew ?_ | refine below_drewN ?_ _ | refine lo_trans ?_ (by assumption) | refine lo_wr ?_ (by assumption) (by omega)))⟩

end Go.Proofs.YtpeiolimdglmhaaGreatDoor

-- Walks: the program's sums of rows and columns.
namespace Go.Proofs.YtpeiolimdglmhaaGreatDoor
open Go.RowKit
set_option maxRecDepth 100000

theorem rsum_step (xs : List Int) (n k : Nat) (hx : xs.length = n) (hk : k < n) : ((rsum xs).take k ++ List.replicate (n - k) 0).set k (pop (xs[k]?.getD 0).toNat : Nat) = (rsum xs).take (k + 1) ++ List.replicate (n - (k + 1)) 0 := by
  have h := copy_step (rsum xs) n k (by simp [rsum, hx]) hk
  have e : (rsum xs)[k]?.getD 0 = (pop (xs[k]?.getD 0).toNat : Nat) := by simp [rsum, List.getElem?_eq_getElem (show k < xs.length by omega)]
  rw [e] at h
  exact h
theorem okB_at {W : Int} {xs : List Int} (h : okB W xs = true) {k : Nat} (hk : k < xs.length) : ∃ r : Nat, xs[k]?.getD 0 = (r : Int) ∧ r < 64 := by
  have h1 := allIn_at (okB_all h) k hk
  have hb := okB_bd h
  obtain ⟨m, rfl⟩ := Int.eq_ofNat_of_zero_le (show 0 ≤ W by omega)
  have hp := pow_int (j := m) (by omega)
  rw [Int.toNat_natCast] at h1
  exact ⟨(xs[k]?.getD 0).toNat, by omega, by omega⟩

set_option maxHeartbeats 1000000 in
theorem RowSums_c (W : Int) (A : Option Addr) (n c : Nat) (xs : List Int) (w : World) (hr : Rd w A n xs) (hn : n ≤ 1125899906842624) :
    Calls Tryz.prog 22 #[.agg #[.int .i64 W, .slice A n c]] w fun e w' => ∃ R r d, e = .returned (.slice R r d) ∧ Below w.heap.size w w' ∧ Own w' w.heap.size R r (rSums W xs) := by
  cases hk : okB W xs with
  | false =>
    have hS := Lib.hid (show rSums W xs = [] by simp [rSums, hk])
    go_enter Tryz.func22, Tryz.ntmps22
    go_wp2_with fail
    refine (impl_ImageValid_c _ _ _ _ xs _ (hr.alloc _) hn).mono ?_
    rw [hk]
    rintro e w1 ⟨rfl, hb1⟩
    go_wp2
    go_ret
    exact ⟨none, 0, 0, rfl, by (repeat (first | exact Below.refl _ _ | assumption | refine lo_alloc ?_ _ | refine lo_set ?_ (by simp; try omega) _ | refine Below.drew ?_ | refine below_drewN ?_ _ | refine lo_trans ?_ (by assumption) | refine lo_wr ?_ (by assumption) (by omega))), by rw [hS.out]; exact Own.nil_ _ _ _⟩
  | true =>
    have hS := Lib.hid (show rSums W xs = rsum xs by simp [rSums, hk])
    have hbd := okB_bd hk
    rw [hr.1] at hbd
    have hmk := make_row n (by omega)
    go_enter Tryz.func22, Tryz.ntmps22
    go_wp2_with fail
    refine (impl_ImageValid_c _ _ _ _ xs _ (hr.alloc _) hn).mono ?_
    rw [hk]
    rintro e w1 ⟨rfl, hb1⟩
    have hk' := Lib.hid hk; clear hk
    have hk1 : Blk w1 w.heap.size _ _ := (Blk.new w 25 #[.int .i64 W, .slice A n c]).next hb1
    have c1 := hk1.cell 1
    have d1 := (hk1.alloc (.cells (madeCells #[Value.int IntKind.i64 0] n) 3)).cell 1
    have hz1 := hk1.lt
    have hb0 : Blk (w1.alloc (.cells (madeCells #[Value.int IntKind.i64 0] n) 3)) w1.heap.size 3 (ints (List.replicate n 0)) := by rw [← made_ints]; exact Blk.new _ _ _
    have hB0 : Below w.heap.size w (w1.alloc (.cells (madeCells #[Value.int IntKind.i64 0] n) 3)) := by (repeat (first | exact Below.refl _ _ | assumption | refine lo_alloc ?_ _ | refine lo_set ?_ (by simp; try omega) _ | refine Below.drew ?_ | refine below_drewN ?_ _ | refine lo_trans ?_ (by assumption) | refine lo_wr ?_ (by assumption) (by omega)))
    go_wp2
    go_loopw [16] (fun i wr => ∃ k : Nat, k ≤ n ∧ i = .int .i64 k ∧ Below w.heap.size w wr ∧ Blk wr w1.heap.size 3 (ints ((rsum xs).take k ++ List.replicate (n - k) 0))) (fun i _ => n - (intOf i).toNat)
    case atStart => exact ⟨0, Nat.zero_le _, rfl, hB0, hb0⟩
    case round =>
      clear hB0 hb0 c1 d1
      obtain ⟨k, hk, rfl, hB, hblk⟩ := hrel
      have hz2 := hblk.lt
      by_cases hlt : k < n
      · obtain ⟨r, hr1, hr2⟩ := okB_at hk'.out (k := k) (by rw [hr.1]; exact hlt)
        obtain ⟨b, off, rfl, hb, hc⟩ := (hr.next hB).at_ hlt
        have hst := Lib.hid (rsum_step xs n k hr.1 hlt)
        rw [hr1] at hc hst
        have hcc := hblk.icell (k := k) (by simp [rsum, hr.1]; omega)
        have hff := hblk.frozen k
        have H := Lib.hid (hblk.iset k (pop r : Nat)); clear hblk hr1
        go_wp2_with (go_at_call 48; refine (ones_c r _ hr2).mono ?_; rintro e w' ⟨rfl, rfl⟩)
        go_roundw
        case rel => exact ⟨k + 1, by omega, by go_num, lo_set hB (by simp; omega) _, by rw [← hst.out]; exact H.out⟩
        case measure => simp [intOf]; omega
      · obtain rfl : k = n := by omega
        go_wp2
        go_ret
        refine ⟨_, _, _, rfl, hB, ?_⟩
        rw [hS.out]
        exact Own.of_blk (by simpa [List.take_of_length_le, rsum, hr.1] using hblk) (by omega) (by simp [rsum, hr.1])

theorem and_bit (r j : Nat) (hr : r < 1073741824) : bits .and .i64 ((r : Int) / 2 ^ j) 1 = if r.testBit j then 1 else 0 := by
  have hd : (r : Int) / 2 ^ j = ((r / 2 ^ j : Nat) : Int) := by simp
  have hl : r / 2 ^ j ≤ r := Nat.div_le_self _ _
  rw [hd, show (1 : Int) = ((1 : Nat) : Int) from rfl, i64_and_nat _ _ (by omega) (by omega), Nat.and_one_is_mod, Nat.testBit_eq_decide_div_mod_eq]
  have : r / 2 ^ j % 2 < 2 := Nat.mod_lt _ (by omega)
  by_cases h : r / 2 ^ j % 2 = 1
  · simp [h]
  · have h0 : r / 2 ^ j % 2 = 0 := by omega
    simp [h0]
theorem cst_val (xs : List Int) (k j r : Nat) (hl : xs.length ≤ 6) (hr : r < 64) (h : xs[k]?.getD 0 = (r : Int)) :
    wrap64 ((ccnt (xs.take k) j : Int) + bits .and .i64 ((r : Int) / 2 ^ j) 1) = (ccnt (xs.take k) j : Int) + (if (xs[k]?.getD 0).toNat.testBit j then 1 else 0) := by
  have h1 := ccnt_le (xs.take k) j
  have h2 : (xs.take k).length ≤ 6 := by rw [List.length_take]; omega
  rw [and_bit r j (by omega), h, Int.toNat_natCast]
  split <;> exact IntWalk.wrap64_in _ (by omega)

set_option maxHeartbeats 1000000 in
theorem ColSums_c (W : Int) (A : Option Addr) (n c : Nat) (xs : List Int) (w : World) (hr : Rd w A n xs) (hn : n ≤ 1125899906842624) :
    Calls Tryz.prog 23 #[.agg #[.int .i64 W, .slice A n c]] w fun e w' => ∃ R r d, e = .returned (.slice R r d) ∧ Below w.heap.size w w' ∧ Own w' w.heap.size R r (cSums W xs) := by
  cases hk : okB W xs with
  | false =>
    have hS := Lib.hid (show cSums W xs = [] by simp [cSums, hk])
    go_enter Tryz.func23, Tryz.ntmps23
    go_wp2_with fail
    refine (impl_ImageValid_c _ _ _ _ xs _ (hr.alloc _) hn).mono ?_
    rw [hk]
    rintro e w1 ⟨rfl, hb1⟩
    go_wp2
    go_ret
    exact ⟨none, 0, 0, rfl, by (repeat (first | exact Below.refl _ _ | assumption | refine lo_alloc ?_ _ | refine lo_set ?_ (by simp; try omega) _ | refine Below.drew ?_ | refine below_drewN ?_ _ | refine lo_trans ?_ (by assumption) | refine lo_wr ?_ (by assumption) (by omega))), by rw [hS.out]; exact Own.nil_ _ _ _⟩
  | true =>
    have hS := Lib.hid (show cSums W xs = csum W.toNat xs by simp [cSums, hk])
    have hbd := okB_bd hk
    rw [hr.1] at hbd
    obtain ⟨m, rfl⟩ := Int.eq_ofNat_of_zero_le (show 0 ≤ W by omega)
    rw [Int.toNat_natCast] at hS
    have hmk := make_row m (by omega)
    go_enter Tryz.func23, Tryz.ntmps23
    go_wp2_with fail
    refine (impl_ImageValid_c _ _ _ _ xs _ (hr.alloc _) hn).mono ?_
    rw [hk]
    rintro e w1 ⟨rfl, hb1⟩
    have hk' := Lib.hid hk; clear hk
    have hk1 : Blk w1 w.heap.size _ _ := (Blk.new w 25 #[.int .i64 m, .slice A n c]).next hb1
    have c0 := hk1.cell 0
    have d1 := (hk1.alloc (.cells (madeCells #[Value.int IntKind.i64 0] m) 3)).cell 1
    have hz1 := hk1.lt
    have hb0 : Blk (w1.alloc (.cells (madeCells #[Value.int IntKind.i64 0] m) 3)) w1.heap.size 3 (ints (cst m xs 0 0)) := by rw [cst_zero, ← made_ints]; exact Blk.new _ _ _
    have hB0 : Below w.heap.size w (w1.alloc (.cells (madeCells #[Value.int IntKind.i64 0] m) 3)) := by (repeat (first | exact Below.refl _ _ | assumption | refine lo_alloc ?_ _ | refine lo_set ?_ (by simp; try omega) _ | refine Below.drew ?_ | refine below_drewN ?_ _ | refine lo_trans ?_ (by assumption) | refine lo_wr ?_ (by assumption) (by omega)))
    go_wp2
    go_loopw [16] (fun i wr => ∃ k : Nat, k ≤ n ∧ i = .int .i64 k ∧ Below w.heap.size w wr ∧ Blk wr w1.heap.size 3 (ints (cst m xs k 0))) (fun i _ => n - (intOf i).toNat)
    case atStart => exact ⟨0, Nat.zero_le _, rfl, hB0, hb0⟩
    case round =>
      clear hB0 hb0 c0 d1
      obtain ⟨k, hk, rfl, hB, hblk⟩ := hrel
      obtain ⟨wo, rfl⟩ : ∃ wo : World, wo = wr := ⟨_, rfl⟩
      by_cases hlt : k < n
      · obtain ⟨r, hr1, hr2⟩ := okB_at hk'.out (k := k) (by rw [hr.1]; exact hlt)
        obtain ⟨b, off, rfl, hb, hc⟩ := (hr.next hB).at_ hlt
        rw [hr1] at hc
        have hr1' := Lib.hid hr1; clear hr1
        go_wp2
        go_loopw [22] (fun i wr => ∃ j : Nat, j ≤ m ∧ i = .int .i64 j ∧ Below w.heap.size w wr ∧ Blk wr w1.heap.size 3 (ints (cst m xs k j))) (fun i _ => m - (intOf i).toNat)
        case atStart => exact ⟨0, Nat.zero_le _, rfl, hB, hblk⟩
        case round =>
          clear hB hblk hb hc
          obtain ⟨j, hj, rfl, hB, hblk⟩ := hrel
          have hz2 := hblk.lt
          by_cases hlt2 : j < m
          · have hcc := hblk.icell (k := j) (by rw [cst_len]; exact hlt2)
            rw [cst_get hlt2] at hcc
            have hff := hblk.frozen j
            have hV := Lib.hid (cst_val xs k j r (by rw [hr.1]; omega) hr2 hr1'.out)
            have H := Lib.hid (hblk.iset j ((ccnt (xs.take k) j : Int) + (if (xs[k]?.getD 0).toNat.testBit j then 1 else 0)))
            rw [cst_set] at H
            clear hblk
            go_wp2
            go_region
            rw [hV.out]
            go_wp2
            go_roundw
            case rel => exact ⟨j + 1, by omega, by go_num, Below.drew (lo_set hB (by simp; omega) _), H.out.drew⟩
            case measure => simp [intOf]; omega
          · obtain rfl : j = m := by omega
            rw [cst_next (by rw [hr.1]; exact hlt)] at hblk
            go_wp2
            go_roundw
            case rel => exact ⟨k + 1, by omega, by go_num, hB, hblk⟩
            case measure => simp [intOf]; omega
      · obtain rfl : k = n := by omega
        go_wp2
        go_ret
        refine ⟨_, _, _, rfl, hB, ?_⟩
        rw [hS.out]
        exact Own.of_blk (by rw [← cst_done, hr.1]; exact hblk) (by omega) (by simp [csum])
end Go.Proofs.YtpeiolimdglmhaaGreatDoor

-- Walks: sums in range; valid sums; the total of a list.
namespace Go.Proofs.YtpeiolimdglmhaaGreatDoor
open Go.RowKit
set_option maxRecDepth 100000

/-- 1 to 6 numbers from 0 to hi -/
def sIn (hi : Int) (xs : List Int) : Bool := decide (1 ≤ xs.length) && decide (xs.length ≤ 6) && allIn 0 hi xs
theorem sIn_out {hi : Int} {xs : List Int} (h : sIn hi xs = true) : 1 ≤ xs.length ∧ xs.length ≤ 6 ∧ allIn 0 hi xs = true := by
  simp only [sIn, Bool.and_eq_true, decide_eq_true_eq] at h
  exact ⟨h.1.1, h.1.2, h.2⟩
theorem sIn_no {hi : Int} {xs : List Int} (h : ¬ (1 ≤ xs.length ∧ xs.length ≤ 6 ∧ allIn 0 hi xs = true)) : sIn hi xs = false := by
  cases e : sIn hi xs with
  | false => rfl
  | true => exact absurd (sIn_out e) h
theorem sIn_yes {hi : Int} {xs : List Int} (h1 : 1 ≤ xs.length) (h2 : xs.length ≤ 6) (h3 : allIn 0 hi xs = true) : sIn hi xs = true := by simp [sIn, h1, h2, h3]

set_option maxHeartbeats 1000000 in
theorem sumsInRange_c (A : Option Addr) (n c : Nat) (hi : Int) (xs : List Int) (w : World) (hr : Rd w A n xs) (hn : n ≤ 1125899906842624) :
    Calls Tryz.prog 55 #[.slice A n c, .int .i64 hi] w fun e w' => e = .returned (.bool (sIn hi xs)) ∧ w = w' := by
  have hxl := Lib.hid hr.1
  go_enter Tryz.func55, Tryz.ntmps55
  go_wp2
  go_loop [9] (fun i => ∃ k : Nat, k ≤ n ∧ i = .int .i64 k ∧ Hid (∀ j, j < k → 0 ≤ xs[j]?.getD 0 ∧ xs[j]?.getD 0 ≤ hi)) (fun i => n - (intOf i).toNat)
  case atStart => exact ⟨0, Nat.zero_le _, rfl, Lib.hid (fun j hj => absurd hj (by omega))⟩
  case round =>
    obtain ⟨k, hk, rfl, hall⟩ := hrel
    by_cases hlt : k < n
    · obtain ⟨b, off, rfl, hb, hc⟩ := hr.at_ hlt
      have hkl : k < xs.length := hxl.out ▸ hlt
      by_cases h1 : xs[k]?.getD 0 < 0
      · have H := Lib.hid (sIn_no (fun h => absurd (allIn_at h.2.2 k hkl).1 (by omega)) : sIn hi xs = false)
        clear hkl
        go_wp2
        go_ret
        exact ⟨ret_bool H.out.symm, rfl⟩
      · by_cases h2 : hi < xs[k]?.getD 0
        · have H := Lib.hid (sIn_no (fun h => absurd (allIn_at h.2.2 k hkl).2 (by omega)) : sIn hi xs = false)
          clear hkl
          go_wp2
          go_ret
          exact ⟨ret_bool H.out.symm, rfl⟩
        · clear hkl
          go_wp2
          go_round
          case rel => exact ⟨k + 1, by omega, by go_num, Lib.hid (fun j hj => by
            rcases Nat.lt_or_ge j k with h | h
            · exact hall.out j h
            · obtain rfl : j = k := by omega
              omega)⟩
          case measure => simp [intOf]; omega
    · obtain rfl : k = n := by omega
      have hA : allIn 0 hi xs = true := allIn_of (fun j hj => hall.out j (hxl.out ▸ hj))
      by_cases h1 : 1 ≤ k
      · by_cases h2 : k ≤ 6
        · have H := Lib.hid (sIn_yes (hxl.out ▸ h1) (hxl.out ▸ h2) hA)
          clear hA
          go_wp2
          go_ret
          exact ⟨ret_bool (by rw [H.out]; simp; omega), rfl⟩
        · have H := Lib.hid (sIn_no (fun h => h2 (hxl.out ▸ h.2.1)) : sIn hi xs = false)
          clear hA
          go_wp2
          go_ret
          exact ⟨ret_bool (by rw [H.out]; simp; omega), rfl⟩
      · have H := Lib.hid (sIn_no (fun h => h1 (hxl.out ▸ h.1)) : sIn hi xs = false)
        have h10 : k = 0 := by omega
        subst h10
        clear hA
        go_wp2
        go_ret
        exact ⟨ret_bool (by rw [H.out]), rfl⟩

/-- SumsValid -/
def sV (rows cols : List Int) : Bool := sIn (cols.length : Int) rows && sIn (rows.length : Int) cols
set_option maxHeartbeats 1000000 in
theorem SumsValid_c (A B : Option Addr) (n m c d : Nat) (xs ys : List Int) (w : World) (hr : Rd w A n xs) (hs : Rd w B m ys) (hn : n ≤ 1125899906842624) (hm : m ≤ 1125899906842624) :
    Calls Tryz.prog 25 #[.slice A n c, .slice B m d] w fun e w' => e = .returned (.bool (sV xs ys)) ∧ w = w' := by
  have hT := Lib.hid (show sV xs ys = (sIn (m : Int) xs && sIn (n : Int) ys) by rw [sV, hr.1, hs.1])
  cases h1 : sIn (m : Int) xs with
  | false =>
    have hT2 := Lib.hid (hT.out.trans (by rw [h1]; rfl : _ = false))
    go_enter Tryz.func25, Tryz.ntmps25
    go_wp2_with (go_at_call 55; refine (sumsInRange_c _ _ _ _ xs _ hr hn).mono ?_; rw [h1]; rintro e w' ⟨rfl, rfl⟩)
    go_ret
    exact ⟨by rw [hT2.out]; rfl, rfl⟩
  | true =>
    have hT2 := Lib.hid (hT.out.trans (by rw [h1]; rfl : _ = sIn (n : Int) ys))
    go_enter Tryz.func25, Tryz.ntmps25
    go_wp2_with fail
    refine (sumsInRange_c _ _ _ _ xs _ hr hn).mono ?_
    rw [h1]
    rintro e w' ⟨rfl, rfl⟩
    clear h1
    go_wp2_with fail
    refine (sumsInRange_c _ _ _ _ ys _ hs hm).mono ?_
    rintro e w' ⟨rfl, rfl⟩
    go_wp2
    go_ret
    exact ⟨by rw [hT2.out]; rfl, rfl⟩

theorem sum_snoc (xs : List Int) {k : Nat} (hk : k < xs.length) : (xs.take (k + 1)).sum = (xs.take k).sum + xs[k]?.getD 0 := by
  rw [List.take_succ_eq_append_getElem hk, List.sum_append]
  simp [List.getElem?_eq_getElem hk]
theorem sum_bd {M : Int} : ∀ {xs : List Int}, (∀ x ∈ xs, 0 ≤ x ∧ x ≤ M) → 0 ≤ xs.sum ∧ xs.sum ≤ xs.length * M
  | [], _ => by simp
  | x :: xs, h => by
    have h1 := sum_bd (xs := xs) (fun y hy => h y (List.mem_cons_of_mem _ hy))
    have h2 := h x (List.mem_cons_self ..)
    have e : ((x :: xs).length : Int) * M = xs.length * M + M := by rw [List.length_cons]; push_cast; rw [Int.add_mul]; omega
    rw [List.sum_cons, e]
    omega
theorem sum_take_bd {M : Int} {xs : List Int} (h : ∀ x ∈ xs, 0 ≤ x ∧ x ≤ M) (hM : M ≤ 1000000) (hM0 : 0 ≤ M) (hl : xs.length ≤ 1000000) (k : Nat) : 0 ≤ (xs.take k).sum ∧ (xs.take k).sum ≤ 1000000000000 := by
  have h1 := sum_bd (M := M) (xs := xs.take k) (fun x hx => h x (List.mem_of_mem_take hx))
  have h2 : (xs.take k).length ≤ 1000000 := by rw [List.length_take]; omega
  have h3 : ((xs.take k).length : Int) * M ≤ 1000000 * 1000000 := Int.mul_le_mul (by omega) hM hM0 (by omega)
  omega
theorem mem_at {xs : List Int} {k : Nat} (hk : k < xs.length) : xs[k]?.getD 0 ∈ xs := by
  simp only [List.getElem?_eq_getElem hk, Option.getD_some]; exact List.getElem_mem hk

set_option maxHeartbeats 1000000 in
theorem total_c (A : Option Addr) (n c : Nat) (M : Int) (xs : List Int) (w : World) (hr : Rd w A n xs) (hn : n ≤ 1000000) (hM0 : 0 ≤ M) (hM : M ≤ 1000000) (hx : ∀ x ∈ xs, 0 ≤ x ∧ x ≤ M) :
    Calls Tryz.prog 125 #[.slice A n c] w fun e w' => e = .returned (.int .i64 xs.sum) ∧ w = w' := by
  have hxl := Lib.hid hr.1
  have hx' := Lib.hid hx; clear hx
  go_enter Tryz.func125, Tryz.ntmps125
  go_wp2
  go_loop [3, 8] (fun s i => ∃ k : Nat, k ≤ n ∧ i = .int .i64 k ∧ s = .int .i64 (xs.take k).sum) (fun _ i => n - (intOf i).toNat)
  case atStart => exact ⟨0, Nat.zero_le _, rfl, by simp⟩
  case round =>
    obtain ⟨k, hk, rfl, rfl⟩ := hrel
    by_cases hlt : k < n
    · obtain ⟨b, off, rfl, hb, hc⟩ := hr.at_ hlt
      have hN := Lib.hid (sum_snoc xs (hxl.out ▸ hlt : k < xs.length))
      have h1 := sum_take_bd hx'.out hM hM0 (by rw [hxl.out]; exact hn) k
      have h2 := hx'.out _ (mem_at (hxl.out ▸ hlt : k < xs.length))
      generalize (xs.take k).sum = s at hN h1 ⊢
      go_wp2
      go_round
      case rel => exact ⟨k + 1, by omega, by go_num, by rw [hN.out]⟩
      case measure => simp [intOf]; omega
    · obtain rfl : k = n := by omega
      have hF := Lib.hid (show (xs.take k).sum = xs.sum by rw [List.take_of_length_le (Nat.le_of_eq hxl.out)])
      go_wp2
      go_ret
      exact ⟨by rw [← hF.out]; rfl, rfl⟩
end Go.Proofs.YtpeiolimdglmhaaGreatDoor

-- Plain mathematics: proofs that sums are not consistent.
namespace Go.Proofs.YtpeiolimdglmhaaGreatDoor

theorem allIn_iff {lo hi : Int} {p : List Int} : allIn lo hi p = true ↔ ∀ x ∈ p, lo ≤ x ∧ x ≤ hi := by
  simp only [allIn, List.all_eq_true, Bool.and_eq_true, decide_eq_true_eq]
theorem sIn_iff {hi : Int} {p : List Int} : sIn hi p = true ↔ 1 ≤ p.length ∧ p.length ≤ 6 ∧ ∀ x ∈ p, 0 ≤ x ∧ x ≤ hi := by
  simp only [sIn, Bool.and_eq_true, decide_eq_true_eq, allIn_iff, and_assoc]
theorem sV_out {r c : List Int} (h : sV r c = true) : 1 ≤ r.length ∧ r.length ≤ 6 ∧ 1 ≤ c.length ∧ c.length ≤ 6 ∧ (∀ x ∈ r, 0 ≤ x ∧ x ≤ c.length) ∧ (∀ x ∈ c, 0 ≤ x ∧ x ≤ r.length) := by
  simp only [sV, Bool.and_eq_true, sIn_iff] at h
  exact ⟨h.1.1, h.1.2.1, h.2.1, h.2.2.1, h.1.2.2, h.2.2.2⟩
theorem sV_swap (r c : List Int) : sV c r = sV r c := by simp only [sV, Bool.and_comm]

/-- the excess at t -/
def exc (r c : List Int) (t : Nat) : Int := tSum r t - mSum c t
/-- ProofOk -/
def pOk (r c : List Int) (t : Int) : Bool := sV r c && decide (0 ≤ t) && decide (t ≤ r.length) && decide (0 < exc r c t.toNat)
theorem pOk_iff {r c : List Int} {t : Int} : pOk r c t = true ↔ sV r c = true ∧ 0 ≤ t ∧ t ≤ r.length ∧ 0 < exc r c t.toNat := by
  simp only [pOk, Bool.and_eq_true, decide_eq_true_eq, and_assoc]
/-- ProofOf -/
def pOf (r c : List Int) : Option Nat := (List.range 7).find? (fun t => pOk r c (t : Nat))
theorem pOf_some {r c : List Int} {t : Nat} (h : pOf r c = some t) : pOk r c (t : Nat) = true ∧ ∀ s, s < t → pOk r c (s : Nat) = false := by
  obtain ⟨h1, l1, l2, h2, h3⟩ := List.find?_eq_some_iff_append.1 h
  refine ⟨h1, fun s hs => ?_⟩
  have hl : l1.length = t := by
    have e := congrArg (fun l => l[l1.length]?) h2
    simp only [List.getElem?_append_right (Nat.le_refl _), Nat.sub_self, List.getElem?_cons_zero] at e
    rcases Nat.lt_or_ge l1.length 7 with h4 | h4
    · rw [List.getElem?_range h4] at e; injection e
    · rw [List.getElem?_eq_none (by simpa using h4)] at e; cases e
  have hm : s ∈ l1 := by
    have e := congrArg (fun l => l[s]?) h2
    simp only [List.getElem?_append_left (show s < l1.length by omega)] at e
    have ht : t < 7 := by
      have := congrArg List.length h2
      simp at this; omega
    rw [List.getElem?_range (by omega)] at e
    exact List.mem_of_getElem? e.symm
  simpa using h3 s hm
theorem pOf_none {r c : List Int} (h : pOf r c = none) (t : Int) : pOk r c t = false := by
  cases e : pOk r c t with
  | false => rfl
  | true =>
    obtain ⟨h1, h2, h3, h4⟩ := pOk_iff.1 e
    have hb := sV_out h1
    have := List.find?_eq_none.1 h t.toNat (List.mem_range.2 (by omega))
    rw [show ((t.toNat : Nat) : Int) = t by omega, e] at this
    exact absurd rfl this
theorem pOf_isSome {r c : List Int} {t : Int} (h : pOk r c t = true) : ∃ s : Nat, pOf r c = some s ∧ (s : Int) ≤ t := by
  cases e : pOf r c with
  | none => rw [pOf_none e] at h; cases h
  | some s =>
    refine ⟨s, rfl, ?_⟩
    obtain ⟨_, h2⟩ := pOf_some e
    rcases Int.lt_or_le t s with h3 | h3
    · have h4 := pOk_iff.1 h
      have := h2 t.toNat (by omega)
      rw [show ((t.toNat : Nat) : Int) = t by omega, h] at this
      cases this
    · exact h3
theorem mSum_le_sum (c : List Int) (t : Int) : mSum c t ≤ c.sum := by
  induction c with
  | nil => simp [mSum]
  | cons x c ih => simp only [mSum, List.map_cons, List.sum_cons] at ih ⊢; omega
theorem mSum_all {c : List Int} {t : Int} (h : ∀ x ∈ c, x ≤ t) : mSum c t = c.sum := by
  induction c with
  | nil => simp [mSum]
  | cons x c ih =>
    have h1 := h x (List.mem_cons_self ..)
    have h2 := ih (fun y hy => h y (List.mem_cons_of_mem _ hy))
    simp only [mSum, List.map_cons, List.sum_cons] at h2 ⊢
    omega
theorem mSum_nonneg {c : List Int} {t : Int} (h : ∀ x ∈ c, 0 ≤ x) (ht : 0 ≤ t) : 0 ≤ mSum c t := by
  induction c with
  | nil => simp [mSum]
  | cons x c ih =>
    have h1 := h x (List.mem_cons_self ..)
    have h2 := ih (fun y hy => h y (List.mem_cons_of_mem _ hy))
    simp only [mSum, List.map_cons, List.sum_cons] at h2 ⊢
    omega
theorem tSum_all (r : List Int) {t : Nat} (h : r.length ≤ t) : tSum r t = r.sum := by
  rw [tSum, List.take_of_length_le (by rw [dsort_len]; exact h), perm_sum (dsort_perm r)]
/-- SumsConsistent -/
def consB (r c : List Int) : Bool := sV r c && decide (r.sum = c.sum) && (List.range 7).all (fun k => decide (exc c r k ≤ 0))
theorem consB_iff {r c : List Int} : consB r c = true ↔ sV r c = true ∧ r.sum = c.sum ∧ pOf c r = none := by
  simp only [consB, Bool.and_eq_true, decide_eq_true_eq, List.all_eq_true, List.mem_range, and_assoc]
  constructor
  · rintro ⟨h1, h2, h3⟩
    refine ⟨h1, h2, List.find?_eq_none.2 (fun t ht => ?_)⟩
    intro h4
    have h5 := (pOk_iff.1 h4).2.2.2
    have h6 := h3 t (by simpa using ht)
    rw [Int.toNat_natCast] at h5
    omega
  · rintro ⟨h1, h2, h3⟩
    refine ⟨h1, h2, fun k hk => ?_⟩
    have hb := sV_out h1
    rcases Nat.lt_or_ge c.length k with h4 | h4
    · rw [exc, tSum_all c (by omega), mSum_all (fun x hx => by have := hb.2.2.2.2.1 x hx; omega)]; omega
    · have h5 := pOf_none h3 (k : Nat)
      rcases Int.lt_or_le 0 (exc c r k) with h6 | h6
      · rw [pOk_iff.2 ⟨by rw [sV_swap]; exact h1, by omega, by omega, by rw [Int.toNat_natCast]; exact h6⟩] at h5
        cases h5
      · exact h6
end Go.Proofs.YtpeiolimdglmhaaGreatDoor
