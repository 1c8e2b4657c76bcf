
/- Walks: the distance of two images. -/
import Derived.Test.YtpcfijlhaakhpaaSm
import Derived.Deep.QuietTactic
import Derived.BigQuiet
namespace Go.Proofs.Ytpcfijlhaakhpaa
open Go.RowKit
set_option maxRecDepth 100000

/-- the first k rows compared -/
def distK (xs ys : List Int) (k : Nat) : Nat := sumN k (fun i => pop ((xs[i]?.getD 0).toNat ^^^ (ys[i]?.getD 0).toNat))
theorem distK_le (xs ys : List Int) (k : Nat) : distK xs ys k ≤ k * 6 := sumN_le_mul fun _ _ => pop_le _

set_option maxHeartbeats 4000000 in
theorem distance_c (m n c d : Nat) (A B : Option Addr) (xs ys : List Int) (w : World) (hr : Rd w A n xs) (hq : Rd w B n ys) (hx : okB (m : Int) xs = true) (hy : okB (m : Int) ys = true) :
    Calls Try.prog 38 #[.agg #[.int .i64 m, .slice A n c], .agg #[.int .i64 m, .slice B n d]] w fun e w' => e = .returned (.int .i64 (distX xs ys)) ∧ Below w.heap.size w w' := by
  have hbd := okB_bd hx
  rw [hr.1] at hbd
  have hx' := Lib.hid hx; have hy' := Lib.hid hy; clear hx hy
  have hxl := Lib.hid hr.1
  have hyl := Lib.hid hq.1
  have hL0 := lo_alloc (lo_alloc (Below.refl w.heap.size w) (.cells #[.int .i64 m, .slice A n c] 25)) (.cells #[.int .i64 m, .slice B n d] 25)
  have hA0 := (Blk.new w 25 #[.int .i64 m, .slice A n c]).alloc (.cells #[.int .i64 m, .slice B n d] 25)
  have hC0 := heap_at2 w (.cells #[.int .i64 m, .slice A n c] 25) 25 #[.int .i64 m, .slice B n d]
  have hr0 := hr.next hL0
  have hq0 := hq.next hL0
  have a1 := hA0.cell 1
  have c1 := hC0.cell 1
  go_enter Try.func38, Try.ntmps38
  go_wp2
  generalize (w.alloc (.cells #[.int .i64 m, .slice A n c] 25)).alloc (.cells #[.int .i64 m, .slice B n d] 25) = w0 at hL0 hA0 hC0 hr0 hq0 a1 c1 ⊢
  clear a1 c1
  go_loopw [5, 11] (fun s i wr => ∃ k : Nat, k ≤ n ∧ i = .int .i64 k ∧ s = .int .i64 (distK xs ys k) ∧ Below w0.heap.size w0 wr) (fun _ i _ => n - (intOf i).toNat)
  case atStart => exact ⟨0, Nat.zero_le _, rfl, rfl, Below.refl _ _⟩
  case round =>
    obtain ⟨k, hk, rfl, rfl, hbl⟩ := hrel
    by_cases hlt : k < n
    · obtain ⟨b, off, rfl, hb, hc⟩ := (hr0.next hbl).at_ hlt
      obtain ⟨b', off', rfl, hb', hc'⟩ := (hq0.next hbl).at_ hlt
      obtain ⟨r, x1, x2⟩ := okB_cell hx'.out (i := k) (by rw [hxl.out]; exact hlt)
      obtain ⟨s, y1, y2⟩ := okB_cell hy'.out (i := k) (by rw [hyl.out]; exact hlt)
      have hpm := pow_le64 (j := m) (by omega)
      have hN := Lib.hid (show distK xs ys (k + 1) = distK xs ys k + pop (r ^^^ s) by simp only [distK, sumN, x1, y1, Int.toNat_natCast])
      rw [x1] at hc
      rw [y1] at hc'
      have hxo := i64_xor_nat r s (by omega) (by omega)
      have hd := distK_le xs ys k
      have hp := pop_le (r ^^^ s)
      have hx64 : r ^^^ s < 64 := Nat.xor_lt_two_pow (n := 6) (by omega) (by omega)
      clear x1 x2 y1 y2 hpm
      have c1 := (hC0.next hbl).cell 1
      generalize distK xs ys k = dk at hN hd ⊢
      go_wp2_with (first | (go_at_call 53; refine (ones_c (r ^^^ s) _ hx64).mono ?_; rintro e w' ⟨rfl, rfl⟩))
      go_roundw
      case rel => exact ⟨k + 1, by omega, by go_num, by rw [hN.out]; go_num, hbl⟩
      case measure => simp [intOf]; omega
    · obtain rfl : k = n := by omega
      have hF := Lib.hid (show distX xs ys = distK xs ys k by unfold distX distK; rw [hxl.out])
      go_wp2
      go_ret
      exact ⟨by rw [hF.out]; rfl, lo_trans hL0 hbl⟩

/-- ImageDistance -/
def distW (W : Int) (xs : List Int) (V : Int) (ys : List Int) : Int := if sizeB W xs V ys then (distX xs ys : Int) else -1
set_option maxHeartbeats 4000000 in
theorem ImageDistance_c (W : Int) (A : Option Addr) (n c : Nat) (xs : List Int) (V : Int) (B : Option Addr) (p d : Nat) (ys : List Int) (w : World) (hr : Rd w A n xs) (hn : n ≤ 1073741824) (hq : Rd w B p ys) (hp : p ≤ 1073741824) :
    Calls Try.prog 14 #[.agg #[.int .i64 W, .slice A n c], .agg #[.int .i64 V, .slice B p d]] w fun e w' => e = .returned (.int .i64 (distW W xs V ys)) ∧ Below w.heap.size w w' := by
  have hL0 := lo_alloc (lo_alloc (Below.refl w.heap.size w) (.cells #[.int .i64 W, .slice A n c] 25)) (.cells #[.int .i64 V, .slice B p d] 25)
  have hA0 := (Blk.new w 25 #[.int .i64 W, .slice A n c]).alloc (.cells #[.int .i64 V, .slice B p d] 25)
  have hC0 := heap_at2 w (.cells #[.int .i64 W, .slice A n c] 25) 25 #[.int .i64 V, .slice B p d]
  have hr0 := hr.next hL0
  have hq0 := hq.next hL0
  cases hs : sizeB W xs V ys with
  | false =>
    have hT := Lib.hid (show distW W xs V ys = -1 by simp [distW, hs])
    go_enter Try.func14, Try.ntmps14
    go_wp2_with fail
    refine (sameSize_c _ _ _ _ xs _ _ _ _ ys _ hr0 hn hq0 hp).mono ?_
    rw [hs]
    rintro e w1 ⟨rfl, hb1⟩
    go_wp2
    go_ret
    exact ⟨by rw [hT.out]; rfl, lo_trans hL0 hb1⟩
  | true =>
    have hT := Lib.hid (show distW W xs V ys = (distX xs ys : Int) by simp [distW, hs])
    obtain ⟨m, rfl, rfl, hx, hy, hl⟩ := sizeB_out hs
    have hx' := Lib.hid hx; have hy' := Lib.hid hy; clear hx hy
    obtain rfl : n = p := by rw [← hr.1, ← hq.1, hl]
    go_enter Try.func14, Try.ntmps14
    go_wp2_with fail
    refine (sameSize_c _ _ _ _ xs _ _ _ _ ys _ hr0 hn hq0 hp).mono ?_
    rw [hs]
    rintro e w1 ⟨rfl, hb1⟩
    have hA1 := hA0.next hb1
    have hC1 := hC0.next hb1
    have hr1 := hr0.next hb1
    have hq1 := hq0.next hb1
    have hL1 := lo_trans hL0 hb1
    clear hs hl hA0 hC0 hr0 hq0 hL0 hb1
    have a0 := hA1.cell 0
    have a1 := hA1.cell 1
    have c0 := hC1.cell 0
    have c1 := hC1.cell 1
    go_wp2_with fail
    refine (distance_c m n c d _ _ xs ys _ hr1 hq1 hx'.out hy'.out).mono ?_
    rintro e w2 ⟨rfl, hb2⟩
    go_wp2
    go_ret
    exact ⟨by rw [hT.out]; rfl, lo_trans hL1 hb2⟩
end Go.Proofs.Ytpcfijlhaakhpaa
