
/- Walks: the sums of two images compared; their distance. -/
import Derived.Test.YtpcfijlhaakhpaaSu
import Derived.Test.YtpcfijlhaakhpaaWg
import Derived.Test.YtpcfijlhaakhpaaMathU
import Derived.Deep.RegionHeld3
namespace Go.Proofs.Ytpcfijlhaakhpaa
open Go.RowKit
set_option maxRecDepth 100000

/-- two valid images of one size -/
def sizeB (W : Int) (xs : List Int) (V : Int) (ys : List Int) : Bool := okB W xs && okB V ys && decide (W = V) && decide (xs.length = ys.length)
set_option maxHeartbeats 4000000 in
theorem sameSize_c (W : Int) (A : Option Addr) (n c : Nat) (xs : List Int) (V : Int) (B : Option Addr) (p d : Nat) (ys : List Int) (w : World) (hr : Rd w A n xs) (hn : n ≤ 1073741824) (hq : Rd w B p ys) (hp : p ≤ 1073741824) :
    Calls Try.prog 36 #[.agg #[.int .i64 W, .slice A n c], .agg #[.int .i64 V, .slice B p d]] w fun e w' => e = .returned (.bool (sizeB W xs V ys)) ∧ Below w.heap.size w w' := by
  have hA0 := (Blk.new w 25 #[.int .i64 W, .slice A n c]).alloc (.cells #[.int .i64 V, .slice B p d] 25)
  have hC0 := heap_at2 w (.cells #[.int .i64 W, .slice A n c] 25) 25 #[.int .i64 V, .slice B p d]
  have hL0 := lo_alloc (lo_alloc (Below.refl w.heap.size w) (.cells #[.int .i64 W, .slice A n c] 25)) (.cells #[.int .i64 V, .slice B p d] 25)
  have hT := Lib.hid (show sizeB W xs V ys = (okB W xs && okB V ys && decide (W = V) && decide (n = p)) by rw [sizeB, hr.1, hq.1])
  cases hk : okB W xs with
  | false =>
    go_enter Try.func36, Try.ntmps36
    go_wp2_with fail
    refine (impl_ImageValid_c _ _ _ _ xs _ (hr.next hL0) (by omega)).mono ?_
    rw [hk]
    rintro e w1 ⟨rfl, hb1⟩
    have hT2 := Lib.hid (show sizeB W xs V ys = false from hT.out.trans (by simp [hk]))
    go_wp2
    go_ret
    exact ⟨by rw [hT2.out]; rfl, lo_trans hL0 hb1⟩
  | true =>
  cases hj : okB V ys with
  | false =>
    go_enter Try.func36, Try.ntmps36
    go_wp2_with fail
    refine (impl_ImageValid_c _ _ _ _ xs _ (hr.next hL0) (by omega)).mono ?_
    rw [hk]
    rintro e w1 ⟨rfl, hb1⟩
    have hT2 := Lib.hid (hT.out.trans (by simp [hj] : _ = false))
    have hL1 := lo_trans hL0 hb1
    have hC1 := hC0.next hb1
    have c0 := hC1.cell 0
    have c1 := hC1.cell 1
    go_wp2_with fail
    refine (impl_ImageValid_c _ _ _ _ ys _ (hq.next hL1) (by omega)).mono ?_
    rw [hj]
    rintro e w2 ⟨rfl, hb2⟩
    go_wp2
    go_ret
    exact ⟨by rw [hT2.out]; rfl, lo_trans hL1 hb2⟩
  | true =>
  have hT2 := Lib.hid (show sizeB W xs V ys = (decide (W = V) && decide (n = p)) from hT.out.trans (by rw [hk, hj]; simp))
  go_enter Try.func36, Try.ntmps36
  go_wp2_with fail
  refine (impl_ImageValid_c _ _ _ _ xs _ (hr.next hL0) (by omega)).mono ?_
  rw [hk]
  rintro e w1 ⟨rfl, hb1⟩
  have hL1 := lo_trans hL0 hb1
  have hC1 := hC0.next hb1
  have hA1 := hA0.next hb1
  have c0 := hC1.cell 0
  have c1 := hC1.cell 1
  clear hk hA0 hC0 hL0 hb1
  go_wp2_with fail
  refine (impl_ImageValid_c _ _ _ _ ys _ (hq.next hL1) (by omega)).mono ?_
  rw [hj]
  rintro e w2 ⟨rfl, hb2⟩
  have hL2 := lo_trans hL1 hb2
  have hC2 := hC1.next hb2
  have hA2 := hA1.next hb2
  clear hj hA1 hC1 hL1 hb2 c0 c1
  have a0 := hA2.cell 0
  have a1 := hA2.cell 1
  have c0 := hC2.cell 0
  have c1 := hC2.cell 1
  by_cases hWV : W = V
  · by_cases hnp : n = p
    · have hT3 := Lib.hid (hT2.out.trans (by simp [hWV, hnp] : _ = true))
      have hnp' : (n : Int) = (p : Int) := by omega
      clear hnp
      go_wp2
      go_ret
      exact ⟨by rw [hT3.out]; rfl, hL2⟩
    · have hT3 := Lib.hid (hT2.out.trans (by simp [hnp] : _ = false))
      have hnp' : ((n : Int) == (p : Int)) = false := beq_eq_false_iff_ne.2 (by omega)
      clear hnp
      go_wp2
      go_ret
      exact ⟨by rw [hT3.out]; rfl, hL2⟩
  · have hT3 := Lib.hid (hT2.out.trans (by simp [hWV] : _ = false))
    go_wp2
    go_ret
    exact ⟨by rw [hT3.out]; rfl, hL2⟩


theorem sizeB_out {W V : Int} {xs ys : List Int} (h : sizeB W xs V ys = true) : ∃ m : Nat, W = m ∧ V = m ∧ okB (m : Int) xs = true ∧ okB (m : Int) ys = true ∧ xs.length = ys.length := by
  simp only [sizeB, Bool.and_eq_true, decide_eq_true_eq] at h
  obtain ⟨⟨⟨h1, h2⟩, rfl⟩, h4⟩ := h
  obtain ⟨m, rfl⟩ := Int.eq_ofNat_of_zero_le (show 0 ≤ W by have := okB_bd h1; omega)
  exact ⟨m, rfl, rfl, h1, h2, h4⟩
theorem sizeB_mk {m : Nat} {xs ys : List Int} (h1 : okB (m : Int) xs = true) (h2 : okB (m : Int) ys = true) (h3 : xs.length = ys.length) : sizeB (m : Int) xs (m : Int) ys = true := by
  simp [sizeB, h1, h2, h3]

/-- SumsFit -/
def sFit (W : Int) (xs r c : List Int) : Bool := okB W xs && decide (rSums W xs = r) && decide (cSums W xs = c)
set_option maxHeartbeats 4000000 in
theorem SumsFit_c (W : Int) (A : Option Addr) (n c : Nat) (xs : List Int) (R C : Option Addr) (p d q e : Nat) (rs cs : List Int) (w : World) (hr : Rd w A n xs) (hn : n ≤ 1073741824) (hp : Rd w R p rs) (hq : Rd w C q cs) :
    Calls Try.prog 37 #[.agg #[.int .i64 W, .slice A n c], .slice R p d, .slice C q e] w fun e w' => e = .returned (.bool (sFit W xs rs cs)) ∧ Below w.heap.size w w' := by
  have hT := Lib.hid (show sFit W xs rs cs = (okB W xs && decide (rSums W xs = rs) && decide (cSums W xs = cs)) from rfl)
  have hA0 := Blk.new w 25 #[.int .i64 W, .slice A n c]
  have hL0 := lo_alloc (Below.refl w.heap.size w) (.cells #[.int .i64 W, .slice A n c] 25)
  cases hk : okB W xs with
  | false =>
    go_enter Try.func37, Try.ntmps37
    go_wp2_with fail
    refine (impl_ImageValid_c _ _ _ _ xs _ (hr.next hL0) (by omega)).mono ?_
    rw [hk]
    rintro e w1 ⟨rfl, hb1⟩
    have hT2 := Lib.hid (hT.out.trans (by simp [hk] : _ = false))
    go_wp2
    go_ret
    exact ⟨by rw [hT2.out]; rfl, lo_trans hL0 hb1⟩
  | true =>
  go_enter Try.func37, Try.ntmps37
  go_wp2_with fail
  refine (impl_ImageValid_c _ _ _ _ xs _ (hr.next hL0) (by omega)).mono ?_
  rw [hk]
  rintro e w1 ⟨rfl, hb1⟩
  have hk' := Lib.hid hk; clear hk
  have hA1 := hA0.next hb1
  have hL1 := lo_trans hL0 hb1
  clear hA0 hL0 hb1
  have a0 := hA1.cell 0
  have a1 := hA1.cell 1
  go_wp2_with fail
  refine (RowSums_c _ _ _ _ xs _ (hr.next hL1) (by omega)).mono ?_
  rintro e w2 ⟨R2, r2, d2, rfl, hb2, hO2⟩
  have hA2 := hA1.next hb2
  have hL2 := lo_trans hL1 hb2
  have hrl : r2 ≤ 1073741824 := by
    have h1 := hO2.1
    have h2 := hr.1
    simp only [rSums, hk'.out, if_true, rsum, List.length_map] at h1
    omega
  clear hA1 hL1 hb2 a0 a1
  go_wp2_with fail
  refine (slicesEqual_c _ _ _ _ _ _ _ rs _ hO2.rd (hp.next hL2) hrl).mono ?_
  rintro e w3 ⟨rfl, hb3⟩
  have hA3 := hA2.next hb3
  have hL3 := lo_trans hL2 hb3
  clear hA2 hL2 hb3 hO2 hrl
  by_cases h1 : rSums W xs = rs
  · have d1 : decide (rSums W xs = rs) = true := decide_eq_true h1
    have hT2 := Lib.hid (hT.out.trans (by rw [hk'.out, d1]; rfl : _ = decide (cSums W xs = cs)))
    clear h1
    have a0 := hA3.cell 0
    have a1 := hA3.cell 1
    go_wp2_with fail
    refine (ColSums_c _ _ _ _ xs _ (hr.next hL3) (by omega)).mono ?_
    rintro e w4 ⟨R4, r4, d4, rfl, hb4, hO4⟩
    have hL4 := lo_trans hL3 hb4
    have hcl : r4 ≤ 1073741824 := by
      have h1 := hO4.1
      have h2 := okB_bd hk'.out
      simp only [cSums, hk'.out, if_true, csum, List.length_map, List.length_range] at h1
      omega
    clear hb4 hL3 a0 a1
    go_wp2_with fail
    refine (slicesEqual_c _ _ _ _ _ _ _ cs _ hO4.rd (hq.next hL4) hcl).mono ?_
    rintro e w5 ⟨rfl, hb5⟩
    have hT3 := hT2.out
    go_wp2
    go_ret
    exact ⟨by rw [hT3]; rfl, lo_trans hL4 hb5⟩
  · have d1 : decide (rSums W xs = rs) = false := decide_eq_false h1
    have hT2 := Lib.hid (hT.out.trans (by rw [d1]; simp : _ = false))
    clear h1
    go_wp2
    go_ret
    exact ⟨by rw [hT2.out]; rfl, hL3⟩
end Go.Proofs.Ytpcfijlhaakhpaa
