
/- Walks: small functions over slices of integers, and over images by value. -/
import Derived.Test.YtjogfeichnkffaaProg
import Derived.Test.YtjogfeichnkffaaMem
import Derived.Outline
import Derived.IntWalk
import Derived.Deep.QuietTactic
import Derived.BigQuiet
namespace Go.Proofs.Ytjogfeichnkffaa
open Go.RowKit

theorem info3 : (Try.prog.info? 3).map (fun i => (i.zero, i.size, i.bytes)) = some (some (.int .i64 0), 1, 8) := by kernel_rfl

theorem make_row (n : Nat) (hn : n ≤ 1073741824) : ∀ u : World, (Instr.makeSlice 22 (.int .i64 (n : Int)) (.int .i64 (n : Int))).run Try.prog u =
      .ok (.slice (some ⟨u.heap.size, 0, none⟩) n n) (u.alloc (.cells (madeCells #[.int .i64 0] n) 3)) := fun u => by
  obtain ⟨i0, hi, hz0, hz1, hz2⟩ := info_parts info3
  have h := run_make (P := Try.prog) u 22 3 i0 (.int .i64 0) Try.underlying22 hi hz0 .i64 .i64 (n : Int) (n : Int) (by omega) (Int.le_refl _) (by rw [hz2]; omega) (by omega)
  simpa [hz1, Value.cells] using h

theorem copy_step (xs : List Int) (n k : Nat) (hx : xs.length = n) (hk : k < n) : (xs.take k ++ List.replicate (n - k) 0).set k (xs[k]?.getD 0) = xs.take (k + 1) ++ List.replicate (n - (k + 1)) 0 := by
  have hl : k < xs.length := by omega
  have e : n - k = (n - (k + 1)) + 1 := by omega
  rw [e, List.replicate_succ, List.set_append_right _ _ (by simp; omega), List.take_succ_eq_append_getElem hl]
  simp [List.length_take, Nat.min_eq_left (Nat.le_of_lt hl), List.getElem?_eq_getElem hl]
  rw [List.append_cons]; simp

set_option maxHeartbeats 400000 in
theorem toIntS_c (A : Option Addr) (n c : Nat) (xs : List Int) (w : World) (hr : Rd w A n xs) (hn : n ≤ 1048576) :
    Calls Try.prog 25 #[.slice A n c] w fun e w' => e = .returned (.slice (some ⟨w.heap.size, 0, none⟩) n n) ∧ Below w.heap.size w w' ∧ Own w' w.heap.size (some ⟨w.heap.size, 0, none⟩) n xs ∧ w.heap.size < w'.heap.size := by
  have hmk := make_row n (by omega)
  go_enter Try.func25, Try.ntmps25
  go_wp2
  have hb0 : Blk (w.alloc (.cells (madeCells #[Value.int IntKind.i64 0] n) 3)) w.heap.size 3 (ints (List.replicate n 0)) := by rw [← made_ints]; exact Blk.new _ _ _
  go_loopw [4] (fun i wr => ∃ k : Nat, k ≤ n ∧ i = .int .i64 k ∧ Below w.heap.size w wr ∧ Blk wr w.heap.size 3 (ints (xs.take k ++ List.replicate (n - k) 0))) (fun i _ => n - (intOf i).toNat)
  case atStart => exact ⟨0, Nat.zero_le _, rfl, (Below.refl _ _).alloc (Nat.le_refl _) _, hb0⟩
  case round =>
    obtain ⟨k, hk, rfl, hbl, hblk⟩ := hrel
    by_cases hlt : k < n
    · obtain ⟨b, off, rfl, hb, hc⟩ := (hr.next hbl).at_ hlt
      have hz : w.heap.size < wr.heap.size := hblk.lt
      have hcc := hblk.icell (k := k) (by have := hr.1; simp; omega)
      have hff := hblk.frozen k
      have H := Lib.hid (hblk.iset k (xs[k]?.getD 0)); clear hblk
      go_wp2
      go_roundw
      case rel => exact ⟨k + 1, by omega, by go_num, hbl.setCell (Nat.le_refl _) _, by rw [← copy_step xs n k hr.1 hlt]; exact H.out⟩
      case measure => simp [intOf]; omega
    · have : k = n := by omega
      subst this
      go_wp2
      go_ret
      exact ⟨rfl, hbl, Own.of_blk (by simpa [List.take_of_length_le (Nat.le_of_eq hr.1)] using hblk) (Nat.le_refl _) hr.1, hblk.lt⟩

set_option maxHeartbeats 400000 in
theorem eqIntS_t (A B : Option Addr) (n m c d : Nat) (xs : List Int) (w : World) (hr : Rd w A n xs) (hs : Rd w B m xs) (hn : n ≤ 1073741824) :
    Calls Try.prog 28 #[.slice A n c, .slice B m d] w fun e w' => e = .returned (.bool true) ∧ Below w.heap.size w w' := by
  obtain rfl : n = m := by rw [← hr.1, ← hs.1]
  go_enter Try.func28, Try.ntmps28
  go_wp2
  go_loopw [5] (fun i wr => ∃ k : Nat, k ≤ n ∧ i = .int .i64 k ∧ Below w.heap.size w wr) (fun i _ => n - (intOf i).toNat)
  case atStart => exact ⟨0, Nat.zero_le _, rfl, Below.refl _ _⟩
  case round =>
    obtain ⟨k, hk, rfl, hbl⟩ := hrel
    by_cases hlt : k < n
    · obtain ⟨b, off, rfl, hb, hc⟩ := (hr.next hbl).at_ hlt
      obtain ⟨b', off', rfl, hb', hc'⟩ := (hs.next hbl).at_ hlt
      go_wp2
      go_quiet (fail)
      go_wp2
      go_roundw
      case rel => exact ⟨k + 1, by omega, by go_num, below_drewN hbl _⟩
      case measure => simp [intOf]; omega
    · go_wp2
      go_ret
      exact ⟨rfl, hbl⟩

/-- k, k+1, .. -/
def iota (k : Int) (n : Nat) : List Int := (List.range n).map (fun i : Nat => k + (i : Int))
theorem iota_get (k : Int) (n i : Nat) (h : i < n) : (iota k n)[i]?.getD 0 = k + i := by simp [iota, h]
theorem iota_len (k : Int) (n : Nat) : (iota k n).length = n := by simp [iota]
theorem take_drop_set (ys xs : List Int) (i : Nat) (v : Int) (hx : i < xs.length) (hv : ys[i]? = some v) : (ys.take i ++ xs.drop i).set i v = ys.take (i + 1) ++ xs.drop (i + 1) := by
  have hm : i < ys.length := by
    rcases Nat.lt_or_ge i ys.length with h | h
    · exact h
    · rw [List.getElem?_eq_none h] at hv; cases hv
  have hv' : ys[i] = v := by rw [List.getElem?_eq_getElem hm] at hv; injection hv
  have hl : (ys.take i).length = i := by rw [List.length_take]; omega
  rw [List.set_append_right _ _ (by omega), hl, Nat.sub_self, List.drop_eq_getElem_cons hx, List.set_cons_zero, List.take_succ_eq_append_getElem hm, hv', List.append_assoc]
  rfl
theorem iota_step (k : Int) (n i : Nat) (xs : List Int) (hx : xs.length = n) (h : i < n) : ((iota k n).take i ++ xs.drop i).set i (k + i) = (iota k n).take (i + 1) ++ xs.drop (i + 1) :=
  take_drop_set _ _ _ _ (by omega) (by simp [iota, h])

set_option maxHeartbeats 400000 in
theorem szIntS_c (A : Option Addr) (n c : Nat) (k : Int) (w : World) (hn : n ≤ 9223372036854775807) (hk0 : 0 ≤ k) (hk1 : k ≤ 1073741824) :
    Calls Try.prog 22 #[.slice A n c, .int .i64 k] w fun e w' => e = .returned (.int .i64 (if k - n < 0 then -1 else k - n)) ∧ w = w' := by
  by_cases h : k - n < 0
  all_goals
    go_enter Try.func22, Try.ntmps22
    go_wp2
    go_ret
    exact ⟨by simp, rfl⟩

set_option maxHeartbeats 400000 in
theorem szImage_c (W : Int) (A : Option Addr) (n c : Nat) (k : Int) (w : World) (hn : n ≤ 9223372036854775807) (hk0 : 0 ≤ k) (hk1 : k ≤ 1073741824) :
    Calls Try.prog 9 #[.agg #[.int .i64 W, .slice A n c], .int .i64 k] w fun e w' => e = .returned (.int .i64 (if k - n < 0 then -1 else k - n)) ∧ Below w.heap.size w w' := by
  by_cases h : k - n < 0
  all_goals
    go_enter Try.func9, Try.ntmps9
    go_wp2_with (go_at_call 22; refine (szIntS_c _ _ _ _ _ (by omega) (by omega) (by omega)).mono ?_; rintro e w' ⟨rfl, rfl⟩)
    go_ret
    exact ⟨by simp, (Below.refl _ _).alloc (Nat.le_refl _) _⟩

set_option maxHeartbeats 400000 in
theorem toImage_c (W : Int) (A : Option Addr) (n c : Nat) (xs : List Int) (w : World) (hr : Rd w A n xs) (hn : n ≤ 1048576) :
    Calls Try.prog 11 #[.agg #[.int .i64 W, .slice A n c]] w fun e w' => ∃ g, e = .returned (.agg #[.int .i64 W, .slice (some ⟨g, 0, none⟩) n n]) ∧ Below w.heap.size w w' ∧ Own w' w.heap.size (some ⟨g, 0, none⟩) n xs ∧ w.heap.size ≤ g ∧ g < w'.heap.size := by
  go_enter Try.func11, Try.ntmps11
  go_wp2_with fail
  refine (toIntS_c _ _ _ _ _ (hr.alloc _ |>.alloc _ |>.alloc _) hn).mono ?_
  rintro e w1 ⟨rfl, hb, ho, hs⟩
  obtain ⟨hc, hf⟩ := bcell hb
  simp only [World.size_alloc] at hs ho
  go_wp2
  refine bodyPost_ret (v := .agg #[.int .i64 W, .slice (some ⟨w.heap.size + 1 + 1 + 1, 0, none⟩) n n]) (by simp [results, Try.results11, go_sem, hc]) rfl ⟨_, rfl, ?_, ?_, by omega, by simpa only [size_setCell] using hs⟩
  · (repeat (first | exact Below.refl _ _ | assumption | refine lo_alloc ?_ _ | refine lo_set ?_ (by simp; try omega) _ | refine Below.drew ?_ | refine below_drewN ?_ _ | refine lo_trans ?_ (by assumption) | refine lo_wr ?_ (by assumption) (by omega)))
  · refine Own.mono ?_ (by omega : w.heap.size ≤ w.heap.size + 1 + 1 + 1)
    (repeat (first | assumption | refine Own.alloc ?_ _ | refine Own.far_lo ?_ (by simp; try omega) _ | refine Own.drew ?_ | refine Own.next ?_ (by assumption)))
end Go.Proofs.Ytjogfeichnkffaa
