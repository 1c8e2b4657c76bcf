
/- Walks: the sums of two images compared; their distance (2). -/
import Derived.Test.YtpcfijlhaakhpaaSm
import Derived.Deep.RegionWith
namespace Go.Proofs.Ytpcfijlhaakhpaa
open Go.RowKit
set_option maxRecDepth 100000

theorem rSums_len (W : Int) (xs : List Int) : (rSums W xs).length ≤ 6 := by
  cases h : okB W xs with
  | false => simp [rSums, h]
  | true => have := okB_bd h; simp [rSums, h, rsum]; omega
theorem cSums_len (W : Int) (xs : List Int) : (cSums W xs).length ≤ 6 := by
  cases h : okB W xs with
  | false => simp [cSums, h]
  | true => have := okB_bd h; simp [cSums, h, csum]; omega
/-- SumsSame -/
def sameB (W : Int) (xs : List Int) (V : Int) (ys : List Int) : Bool := sizeB W xs V ys && sFit W xs (rSums V ys) (cSums V ys)

set_option maxHeartbeats 8000000 in
theorem SumsSame_c (W : Int) (A : Option Addr) (n c : Nat) (xs : List Int) (V : Int) (B : Option Addr) (p d : Nat) (ys : List Int) (w : World) (hr : Rd w A n xs) (hn : n ≤ 1073741824) (hq : Rd w B p ys) (hp : p ≤ 1073741824) :
    Calls Try.prog 13 #[.agg #[.int .i64 W, .slice A n c], .agg #[.int .i64 V, .slice B p d]] w fun e w' => e = .returned (.bool (sameB W xs V ys)) ∧ Below w.heap.size w w' := by
  have hT := Lib.hid (show sameB W xs V ys = (sizeB W xs V ys && sFit W xs (rSums V ys) (cSums V ys)) from rfl)
  have hL0 := lo_alloc (lo_alloc (Below.refl w.heap.size w) (.cells #[.int .i64 W, .slice A n c] 25)) (.cells #[.int .i64 V, .slice B p d] 25)
  have hA0 := (Blk.new w 25 #[.int .i64 W, .slice A n c]).alloc (.cells #[.int .i64 V, .slice B p d] 25)
  have hC0 := heap_at2 w (.cells #[.int .i64 W, .slice A n c] 25) 25 #[.int .i64 V, .slice B p d]
  have hr0 := (hr.next hL0).drew
  have hq0 := (hq.next hL0).drew
  have a0 := hA0.cell 0
  have a1 := hA0.cell 1
  have c0 := hC0.cell 0
  have c1 := hC0.cell 1
  cases hs : sizeB W xs V ys with
  | false =>
    have hT2 := Lib.hid (hT.out.trans (by rw [hs]; rfl : _ = false))
    go_enter Try.func13, Try.ntmps13
    go_wp2
    go_region_with ((go_at_call 36; refine (sameSize_c _ _ _ _ xs _ _ _ _ ys _ hr0 hn hq0 hp).mono ?_; rw [hs]; rintro e w1 ⟨rfl, hb1⟩))
    all_goals
      go_simp
      go_wp2
      go_ret
      exact ⟨by rw [hT2.out]; rfl, lo_trans (Below.drew hL0) hb1⟩
  | true =>
    have hT2 := Lib.hid (hT.out.trans (by rw [hs]; rfl : _ = sFit W xs (rSums V ys) (cSums V ys)))
    go_enter Try.func13, Try.ntmps13
    go_wp2
    go_region_held3 (fun w' => w'.cell? ⟨w.heap.size, 0, none⟩ = some (.int .i64 W) ∧ w'.cell? ⟨w.heap.size, 1, none⟩ = some (.slice A n c) ∧ w'.cell? ⟨w.heap.size + 1, 0, none⟩ = some (.int .i64 V) ∧ w'.cell? ⟨w.heap.size + 1, 1, none⟩ = some (.slice B p d))
      (first
        | go_keep
        | exact ⟨(hA0.drew.next hLr).cell 0, (hA0.drew.next hLr).cell 1, (hC0.drew.next hLr).cell 0, (hC0.drew.next hLr).cell 1⟩)
      (first
        | (go_at_call 36
           refine (sameSize_c _ _ _ _ xs _ _ _ _ ys _ hr0 hn hq0 hp).mono ?_
           rw [hs]
           rintro e w1 ⟨rfl, hLr⟩)
        | (go_at_call 23
           refine (RowSums_c _ _ _ _ ys _ (hq0.next hLr) (by omega)).mono ?_
           rintro e w1 ⟨R1, r1, d1, rfl, hb1, hR⟩
           have hR := hR.rd
           try (have hC := hC.next hb1)
           have hLr := lo_trans hLr hb1)
        | (go_at_call 28
           refine (ColSums_c _ _ _ _ ys _ (hq0.next hLr) (by omega)).mono ?_
           rintro e w2 ⟨R2, r2, d2, rfl, hb1, hC⟩
           have hC := hC.rd
           try (have hR := hR.next hb1)
           have hLr := lo_trans hLr hb1)
        | (go_at_call 37
           refine (SumsFit_c _ _ _ _ xs _ _ _ _ _ _ (rSums V ys) (cSums V ys) _ (hr0.next hLr) hn hR hC).mono ?_
           rintro e w3 ⟨rfl, hb3⟩
           have hLr := lo_trans hLr hb3))
    all_goals
      go_wp2
      go_ret
      exact ⟨by rw [hT2.out]; rfl, lo_trans (Below.drew hL0) hLr⟩
end Go.Proofs.Ytpcfijlhaakhpaa
