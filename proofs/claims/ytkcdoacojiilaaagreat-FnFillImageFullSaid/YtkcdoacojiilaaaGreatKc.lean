
/- Plain facts and walks that the law's proof uses; each says its own conditions. -/
import Derived.Test.YtkcdoacojiilaaaGreatKb
import Derived.Test.YtkcdoacojiilaaaGreatKa
import Derived.RegionTactic
import Derived.Deep.RegionWith
import Derived.StillTailTactics
-- Walks: the program's weights.
namespace Go.Proofs.YtkcdoacojiilaaaGreat
open Go.RowKit
set_option maxRecDepth 100000

theorem wIn_all {p : List Int} (h : ∀ k, k < p.length → -99 ≤ p[k]?.getD 0 ∧ p[k]?.getD 0 ≤ 99) : p.all (fun x => decide (-99 ≤ x) && decide (x ≤ 99)) = true := by
  simp only [List.all_eq_true, Bool.and_eq_true, decide_eq_true_eq]
  intro x hx
  obtain ⟨i, hi, rfl⟩ := List.getElem_of_mem hx
  simpa [List.getElem?_eq_getElem hi] using h i hi
theorem wIn_no {p : List Int} {k : Nat} (hk : k < p.length) (h : ¬ (-99 ≤ p[k]?.getD 0 ∧ p[k]?.getD 0 ≤ 99)) : wIn p = false := by
  cases e : wIn p with
  | false => rfl
  | true => exact absurd (wIn_at e k hk) h
theorem wIn_eq {p : List Int} (h : ∀ k, k < p.length → -99 ≤ p[k]?.getD 0 ∧ p[k]?.getD 0 ≤ 99) : wIn p = (decide (1 ≤ p.length) && decide (p.length ≤ 6)) := by
  simp [wIn, wIn_all h]

set_option maxHeartbeats 400000 in
theorem emptyImage_c (h m : Nat) (w : World) (hh : h ≤ 1073741824) :
    Calls Tryz.prog 15 #[.int .i64 h, .int .i64 m] w fun e w' => ∃ g, e = .returned (.agg #[.int .i64 m, .slice (some ⟨g, 0, none⟩) h h]) ∧ Below w.heap.size w w' ∧ Blk w' g 3 (ints (List.replicate h 0)) ∧ w.heap.size ≤ g ∧ g < w'.heap.size := by
  have hmk := make_row h hh
  go_enter Tryz.func15, Tryz.ntmps15
  go_wp2
  refine bodyPost_ret (v := .agg #[.int .i64 m, .slice (some ⟨w.heap.size + 1, 0, none⟩) h h]) (by simp [results, Tryz.results15, go_sem]) rfl ⟨_, rfl, ?_, ?_, by omega, by simp⟩
  · (repeat (first | exact Below.refl _ _ | assumption | refine lo_alloc ?_ _ | refine lo_set ?_ (by simp; try omega) _ | refine Below.drew ?_ | refine below_drewN ?_ _ | refine lo_trans ?_ (by assumption) | refine lo_wr ?_ (by assumption) (by omega)))
  · rw [← made_ints]
    exact heap_at2 _ _ _ _

set_option maxHeartbeats 400000 in
theorem flip_c (g n c i j r : Nat) (xs : List Int) (W : Int) (w : World) (hb : Blk w g 3 (ints xs)) (hi : i < n) (hx : i < xs.length) (hj : j < 6) (hr : r < 64) (hc : xs[i]?.getD 0 = (r : Int)) :
    Calls Tryz.prog 25 #[.agg #[.int .i64 W, .slice (some ⟨g, 0, none⟩) n c], .int .i64 i, .int .i64 j] w fun e w' => e = .returned (.tuple #[]) ∧ Blk w' g 3 (ints (xs.set i ((r ^^^ 2 ^ j : Nat) : Int))) ∧ w.grownBy w' (some g) := by
  have hcc := hb.icell hx
  have hff := hb.frozen i
  have hz := hb.lt
  have hp := pow_int (j := j) (by omega)
  have hp' := pow_le64 (j := j) (by omega)
  have hw : wrap64 (2 ^ j) = 2 ^ j := IntWalk.wrap64_in _ (by omega)
  have hX := Lib.hid (show bits .xor .i64 (r : Int) (2 ^ j) = ((r ^^^ 2 ^ j : Nat) : Int) from by
    rw [← i64_xor_nat r (2 ^ j) (by omega) (by omega)]; simp)
  rw [hc] at hcc
  have hs := Lib.hid (hb.iset i ((r ^^^ 2 ^ j : Nat) : Int))
  clear hc
  go_enter Tryz.func25, Tryz.ntmps25
  go_wp2
  go_region
  all_goals go_end0
  all_goals rw [hX.out]
  all_goals exact ⟨rfl, Blk.drew (Blk.alloc hs.out _), grown_trans (grown_trans (grown_set _) (grown_alloc _ _)) (grown_drew _)⟩

theorem wW_no {p q : List Int} (h : wOk p q = false) : wW p q = 0 ∧ wX p q = [] := by simp [wW, wX, h]
theorem wW_yes {p q : List Int} (h : wOk p q = true) : wW p q = q.length ∧ wX p q = img (wF p q) p.length q.length := by simp [wW, wX, h]

/-- what lies in memory while an image is filled: the result's cells, the image's, its rows -/
def WInv (w wr : World) (o g n m : Nat) (xs : List Int) : Prop :=
  Below w.heap.size w wr ∧ Blk wr w.heap.size 27 #[.int .i64 0, .slice none 0 0] ∧ Blk wr o 27 #[.int .i64 m, .slice (some ⟨g, 0, none⟩) n n] ∧ Blk wr g 3 (ints xs)
theorem WInv.step {w wr w3 : World} {o g n m : Nat} {xs ys : List Int} (h : WInv w wr o g n m xs) (h1 : w.heap.size < g) (h2 : g ≠ o) (hg : wr.grownBy w3 (some g)) (hb : Blk w3 g 3 (ints ys)) : WInv w w3 o g n m ys :=
  ⟨lo_grown h.1 hg (by rintro _ ⟨⟩; omega), h.2.1.grown hg (by intro e; injection e; omega), h.2.2.1.grown hg (by intro e; injection e; omega), hb⟩
theorem WInv.cells {w wr : World} {o g n m : Nat} {xs : List Int} (h : WInv w wr o g n m xs) :
    wr.cell? ⟨w.heap.size, 0, none⟩ = some (.int .i64 0) ∧ wr.cell? ⟨w.heap.size, 1, none⟩ = some (.slice none 0 0) ∧ wr.frozen? ⟨w.heap.size, 0, none⟩ = false ∧ wr.frozen? ⟨w.heap.size, 1, none⟩ = false ∧
    wr.cell? ⟨o, 0, none⟩ = some (.int .i64 m) ∧ wr.cell? ⟨o, 1, none⟩ = some (.slice (some ⟨g, 0, none⟩) n n) :=
  ⟨h.2.1.cell 0, h.2.1.cell 1, h.2.1.frozen 0, h.2.1.frozen 1, h.2.2.1.cell 0, h.2.2.1.cell 1⟩

end Go.Proofs.YtkcdoacojiilaaaGreat

-- Walks: the reference's weights.
namespace Go.Proofs.YtkcdoacojiilaaaGreat
open Go.RowKit
set_option maxRecDepth 100000

theorem pow_step (k : Nat) : (2 : Int) ^ (k + 1) = 2 ^ k * 2 := by rw [Int.pow_succ]
theorem pow_bd {k : Nat} (h : k ≤ 61) : (1 : Int) ≤ 2 ^ k ∧ (2 : Int) ^ k ≤ 2305843009213693952 := by
  have h1 : 2 ^ k ≤ 2 ^ 61 := Nat.pow_le_pow_right (by omega) h
  have h2 : 0 < 2 ^ k := Nat.pow_pos (by omega)
  have e : ((2 ^ k : Nat) : Int) = (2 : Int) ^ k := by simp
  omega

set_option maxHeartbeats 400000 in
theorem l1Power_c (a : Int) (w : World) (h0 : 0 ≤ a) (h : a ≤ 60) :
    Calls Tryz.prog 65 #[.int .i64 a] w fun e w' => e = .returned (.int .i64 (2 ^ a.toNat)) ∧ w = w' := by
  obtain ⟨n, rfl⟩ := Int.eq_ofNat_of_zero_le h0
  rw [Int.toNat_natCast]
  go_enter Tryz.func65, Tryz.ntmps65
  go_wp2
  go_loop [3, 4] (fun o i => ∃ k : Nat, k ≤ n ∧ i = .int .i64 k ∧ o = .int .i64 (2 ^ k)) (fun _ i => n - (intOf i).toNat)
  case atStart => exact ⟨0, Nat.zero_le _, rfl, by simp⟩
  case round =>
    obtain ⟨k, hk, rfl, rfl⟩ := hrel
    by_cases hlt : k < n
    · have hp := pow_bd (k := k) (by omega)
      have hs := Lib.hid (pow_step k)
      go_wp2
      go_round
      case rel => exact ⟨k + 1, by omega, by go_num, by rw [hs.out]⟩
      case measure => simp [intOf]; omega
    · obtain rfl : k = n := by omega
      go_wp2
      go_ret
      exact ⟨rfl, rfl⟩

set_option maxHeartbeats 400000 in
theorem l1Bit_c (r j : Nat) (w : World) (hj : j ≤ 60) (hr : r < 9223372036854775807) :
    Calls Tryz.prog 64 #[.int .i64 r, .int .i64 j] w fun e w' => e = .returned (.int .i64 (r / 2 ^ j % 2 : Nat)) ∧ w = w' := by
  have hp := pow_bd (k := j) (by omega)
  have hd : (r : Int) / 2 ^ j = ((r / 2 ^ j : Nat) : Int) := by simp
  have hle : r / 2 ^ j ≤ r := Nat.div_le_self _ _
  generalize r / 2 ^ j = q at hd hle
  go_enter Tryz.func64, Tryz.ntmps64
  go_wp2_with (go_at_call 65; refine (l1Power_c _ _ (by omega) (by omega)).mono ?_; rintro e w' ⟨rfl, rfl⟩)
  go_ret
  exact ⟨ret_int (by simp), rfl⟩

set_option maxHeartbeats 400000 in
theorem l6In_c (n lo hi : Int) (w : World) :
    Calls Tryz.prog 42 #[.int .i64 n, .int .i64 lo, .int .i64 hi] w fun e w' => e = .returned (.bool (decide (lo ≤ n) && decide (n ≤ hi))) ∧ w = w' := by
  by_cases h : lo ≤ n
  all_goals
    go_enter Tryz.func42, Tryz.ntmps42
    go_wp2
    go_ret
    exact ⟨ret_bool (by rw [Bool.eq_iff_iff]; simp; try omega), rfl⟩

/-- a region that reads and calls quietly ahead of its last operations: the world behind the draw under its own name -/
theorem region_tail {P : Program} {id : Nat} {Q : Exit → Act → World → Prop} {a : Act} {w : World} {l : List Oper} (n : Nat) (hm : P.follows .mixedOrders = true) (hB : Region.lexTailB .any l.toArray n = true)
    (h : wpStill P l.toArray w.drew (fun a' => wpList P l.toArray Q (l.drop n) a' w.drew) (l.take n) a) : (Code.region id l.toArray true).wp P Q a w := wp_region_still_tail n hm hB h

/-- the row with its cell j set, or not -/
def put (r j : Nat) (b : Bool) : Nat := r - r / 2 ^ j % 2 * 2 ^ j + (if b then 2 ^ j else 0)
theorem bit_le (r j : Nat) : r / 2 ^ j % 2 * 2 ^ j ≤ r := by
  have h1 : r / 2 ^ j % 2 ≤ r / 2 ^ j := Nat.mod_le _ _
  calc r / 2 ^ j % 2 * 2 ^ j ≤ r / 2 ^ j * 2 ^ j := Nat.mul_le_mul_right _ h1
    _ ≤ r := Nat.div_mul_le_self _ _

theorem put_wrap (r j : Nat) (hr : r < 1073741824) : wrap64 ((r : Int) - wrap64 ((r : Int) / 2 ^ j % 2 * 2 ^ j)) = ((put r j false : Nat) : Int) := by
  have h1 := bit_le r j
  have e : (r : Int) / 2 ^ j % 2 * 2 ^ j = ((r / 2 ^ j % 2 * 2 ^ j : Nat) : Int) := by simp
  rw [e]
  generalize hq : r / 2 ^ j % 2 * 2 ^ j = q at h1 ⊢
  rw [IntWalk.wrap64_in (q : Int) (by omega), IntWalk.wrap64_in _ (by omega)]
  simp only [put, hq]
  simp; omega
theorem put_wrap2 (r j : Nat) (hj : j ≤ 30) (hr : r < 1073741824) : wrap64 ((r : Int) + 2 ^ j) = ((r + 2 ^ j : Nat) : Int) := by
  have h := pow_bd (k := j) (by omega)
  rw [IntWalk.wrap64_in _ (by omega)]
  simp
theorem put_true (r j : Nat) : put r j true = put r j false + 2 ^ j := by simp [put]
theorem put_le (r j : Nat) : put r j false ≤ r := by simp [put]

set_option maxHeartbeats 400000 in
theorem l1Put_c (g n c i j r : Nat) (b : Bool) (xs : List Int) (W : Int) (w : World) (hb : Blk w g 3 (ints xs)) (hi : i < n) (hx : i < xs.length) (hj : j ≤ 30) (hr : r < 1073741824) (hc : xs[i]?.getD 0 = (r : Int)) :
    Calls Tryz.prog 47 #[.agg #[.int .i64 W, .slice (some ⟨g, 0, none⟩) n c], .int .i64 i, .int .i64 j, .bool b] w fun e w' => e = .returned (.tuple #[]) ∧ Blk w' g 3 (ints (xs.set i ((put r j b : Nat) : Int))) ∧ w.grownBy w' (some g) := by
  have hcc := hb.icell hx
  have hff := hb.frozen i
  have hz := hb.lt
  rw [hc] at hcc
  have hp := pow_bd (k := j) (by omega)
  have hr1 := put_le r j
  have hr2 : put r j false < 1073741824 := by omega
  have hj2 : j ≤ 60 := by omega
  have hr3 : r < 9223372036854775807 := by omega
  have hj3 : (j : Int) ≤ 60 := by omega
  have hj4 : (0 : Int) ≤ j := by omega
  have hv := Lib.hid (put_wrap r j hr)
  have hpt := Lib.hid (put_true r j)
  obtain ⟨r1, hpf⟩ : ∃ r1, put r j false = r1 := ⟨_, rfl⟩
  rw [hpf] at hv hr1 hr2 hpt
  have hpf' := Lib.hid hpf; clear hpf
  cases b with
  | false =>
    have hs := Lib.hid (hb.iset i (r1 : Int))
    clear hc
    go_enter Tryz.func47, Tryz.ntmps47
    go_wp2_with fail
    refine region_tail 20 (by kernel_rfl) (by kernel_rfl) ?_
    simp only [List.take_succ_cons, List.take_zero, List.drop_succ_cons, List.drop_zero]
    repeat still_step
    still_call (still_of (l1Bit_c r j _ hj2 hr3))
    repeat still_step
    still_call (still_of (l1Power_c _ _ hj4 hj3))
    repeat still_step
    refine wpStill_nil ?_
    go_wp2_with fail
    rw [hv.out]
    go_end0
    rw [hpf'.out]
    exact ⟨rfl, Blk.drew (Blk.alloc hs.out _), grown_trans (grown_trans (grown_set _) (grown_alloc _ _)) (grown_drew _)⟩
  | true =>
    have hs := Lib.hid (hb.iset i (r1 : Int))
    have hv2 := Lib.hid (put_wrap2 r1 j hj hr2)
    clear hc
    go_enter Tryz.func47, Tryz.ntmps47
    go_wp2_with fail
    refine region_tail 20 (by kernel_rfl) (by kernel_rfl) ?_
    simp only [List.take_succ_cons, List.take_zero, List.drop_succ_cons, List.drop_zero]
    repeat still_step
    still_call (still_of (l1Bit_c r j _ hj2 hr3))
    repeat still_step
    still_call (still_of (l1Power_c _ _ hj4 hj3))
    repeat still_step
    refine wpStill_nil ?_
    go_wp2_with fail
    rw [hv.out]
    have hW := Blk.new (w.setCell ⟨g, i, none⟩ (.int .i64 (r1 : Int))) 27 #[.int .i64 W, .slice (some ⟨g, 0, none⟩) n c]
    have hG := Blk.drew (Blk.alloc hs.out (.cells #[.int .i64 W, .slice (some ⟨g, 0, none⟩) n c] 27))
    have hg : w.grownBy (((w.setCell ⟨g, i, none⟩ (.int .i64 (r1 : Int))).alloc (.cells #[.int .i64 W, .slice (some ⟨g, 0, none⟩) n c] 27))).drew (some g) := grown_trans (grown_trans (grown_set _) (grown_alloc _ _)) (grown_drew _)
    rw [size_setCell] at hW
    generalize ((w.setCell ⟨g, i, none⟩ (.int .i64 (r1 : Int))).alloc (.cells #[.int .i64 W, .slice (some ⟨g, 0, none⟩) n c] 27)) = w2 at hW hG hg ⊢
    have hW1 := hW.drew.cell 1
    have hG1 := hG.icell (k := i) (by simpa using hx)
    have hG2 := hG.frozen i
    have hG3 := Lib.hid (hG.iset i ((r1 + 2 ^ j : Nat) : Int))
    rw [List.set_set, ← hpt.out] at hG3
    simp only [List.getElem?_set_self hx, Option.getD_some] at hG1
    clear hcc hff hs
    generalize w2.drew = w3 at hW1 hG1 hG2 hG3 hg ⊢
    have hv2 := hv2.out
    refine region_tail 12 (by kernel_rfl) (by kernel_rfl) ?_
    simp only [List.take_succ_cons, List.take_zero, List.drop_succ_cons, List.drop_zero]
    repeat still_step
    still_call (still_of (l1Power_c _ _ hj4 hj3))
    repeat still_step
    refine wpStill_nil ?_
    go_wp2_with fail
    go_end0
    rw [show (r1 : Int) + 2 ^ j = ((put r j true : Nat) : Int) from by rw [hpt.out]; simp]
    exact ⟨rfl, Blk.drew hG3.out, grown_trans (grown_trans hg (grown_set _)) (grown_drew _)⟩
end Go.Proofs.YtkcdoacojiilaaaGreat

-- Walks: the reference's weights, its image.
namespace Go.Proofs.YtkcdoacojiilaaaGreat
open Go.RowKit
set_option maxRecDepth 100000

set_option maxHeartbeats 400000 in
theorem l2Each_c (A : Option Addr) (n c : Nat) (lo hi : Int) (xs : List Int) (w : World) (hr : Rd w A n xs) (hn : n ≤ 1073741824) :
    Calls Tryz.prog 43 #[.slice A n c, .int .i64 lo, .int .i64 hi] w fun e w' => e = .returned (.bool (allIn lo hi xs)) ∧ w = w' := by
  have hxl := Lib.hid hr.1
  go_enter Tryz.func43, Tryz.ntmps43
  go_wp2
  go_loop [7] (fun i => ∃ k : Nat, k ≤ n ∧ i = .int .i64 k ∧ Hid (∀ j, j < k → lo ≤ xs[j]?.getD 0 ∧ xs[j]?.getD 0 ≤ hi)) (fun i => n - (intOf i).toNat)
  case atStart => exact ⟨0, Nat.zero_le _, rfl, Lib.hid (fun j hj => absurd hj (by omega))⟩
  case round =>
    obtain ⟨k, hk, rfl, hall⟩ := hrel
    by_cases hlt : k < n
    · obtain ⟨b, off, rfl, hb, hc⟩ := hr.at_ hlt
      by_cases h1 : lo ≤ xs[k]?.getD 0 ∧ xs[k]?.getD 0 ≤ hi
      · obtain ⟨h1, h2⟩ := h1
        go_wp2_with (go_at_call 42; refine (l6In_c _ _ _ _).mono ?_; rintro e w' ⟨rfl, rfl⟩)
        go_round
        case rel => exact ⟨k + 1, by omega, by go_num, Lib.hid (fun j hj => by
          rcases Nat.lt_or_ge j k with h | h
          · exact hall.out j h
          · obtain rfl : j = k := by omega
            omega)⟩
        case measure => simp [intOf]; omega
      · have H := Lib.hid (allIn_no (hxl.out ▸ hlt) h1)
        have h1' : (decide (lo ≤ xs[k]?.getD 0) && decide (xs[k]?.getD 0 ≤ hi)) = false := by
          rw [Bool.eq_false_iff]; simpa using h1
        clear h1
        go_wp2_with (go_at_call 42; refine (l6In_c _ _ _ _).mono ?_; rw [h1']; rintro e w' ⟨rfl, rfl⟩)
        go_ret
        exact ⟨ret_bool H.out.symm, rfl⟩
    · obtain rfl : k = n := by omega
      have H := Lib.hid (allIn_of (hxl.out ▸ hall.out))
      go_wp2
      go_ret
      exact ⟨ret_bool H.out.symm, rfl⟩

set_option maxHeartbeats 400000 in
theorem l1Blank_c (h m : Nat) (w : World) (hh : h ≤ 1073741824) :
    Calls Tryz.prog 18 #[.int .i64 h, .int .i64 m] w fun e w' => ∃ g, e = .returned (.agg #[.int .i64 m, .slice (some ⟨g, 0, none⟩) h h]) ∧ Below w.heap.size w w' ∧ Blk w' g 3 (ints (List.replicate h 0)) ∧ w.heap.size ≤ g ∧ g < w'.heap.size := by
  have hmk := make_row h hh
  go_enter Tryz.func18, Tryz.ntmps18
  go_wp2
  refine bodyPost_ret (v := .agg #[.int .i64 m, .slice (some ⟨w.heap.size + 1, 0, none⟩) h h]) (by simp [results, Tryz.results18, go_sem]) rfl ⟨_, rfl, ?_, ?_, by omega, by simp⟩
  · (repeat (first | exact Below.refl _ _ | assumption | refine lo_alloc ?_ _ | refine lo_set ?_ (by simp; try omega) _ | refine Below.drew ?_ | refine below_drewN ?_ _ | refine lo_trans ?_ (by assumption) | refine lo_wr ?_ (by assumption) (by omega)))
  · rw [← made_ints]
    exact heap_at2 _ _ _ _

theorem put_mk (f : Nat → Bool) (j : Nat) (b : Bool) (h : f j = b) : put (mkRow f j) j b = mkRow f (j + 1) := by
  simp only [put, mkRow_div, mkRow, h]
  cases b <;> simp

theorem l6In_t {n lo hi : Int} (w : World) (h : lo ≤ n ∧ n ≤ hi) :
    Calls Tryz.prog 42 #[.int .i64 n, .int .i64 lo, .int .i64 hi] w fun e w' => e = .returned (.bool true) ∧ w = w' :=
  (l6In_c n lo hi w).mono fun _ _ ⟨h1, h2⟩ => ⟨by rw [h1]; simp [h.1, h.2], h2⟩
theorem l6In_f {n lo hi : Int} (w : World) (h : n < lo ∨ hi < n) :
    Calls Tryz.prog 42 #[.int .i64 n, .int .i64 lo, .int .i64 hi] w fun e w' => e = .returned (.bool false) ∧ w = w' :=
  (l6In_c n lo hi w).mono fun _ _ ⟨h1, h2⟩ => ⟨by rw [h1]; exact ret_bool (by rw [Bool.and_eq_false_iff]; simp; omega), h2⟩

end Go.Proofs.YtkcdoacojiilaaaGreat
