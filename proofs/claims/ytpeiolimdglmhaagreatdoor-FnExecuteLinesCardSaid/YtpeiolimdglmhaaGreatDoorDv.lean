
/- Walks: row sums, column sums and line sums, with their capacities; their digits as a script's words. -/
import Derived.Test.YtpeiolimdglmhaaGreatDoorZ40
import Derived.Test.YtpeiolimdglmhaaGreatDoorZ26
namespace Go.Proofs.YtpeiolimdglmhaaGreatDoor
open Go.RowKit
set_option maxRecDepth 100000

set_option maxHeartbeats 1000000 in
theorem RowSums_k (W : Int) (A : Option Addr) (n c : Nat) (xs : List Int) (w : World) (hr : Rd w A n xs) (hn : n ≤ 1125899906842624) :
    Calls Tryz.prog 22 #[.agg #[.int .i64 W, .slice A n c]] w fun e w' => ∃ R r d, e = .returned (.slice R r d) ∧ r ≤ d ∧ Below w.heap.size w w' ∧ Own w' w.heap.size R r (rSums W xs) := by
  cases hk : okB W xs with
  | false =>
    have hS := Lib.hid (show rSums W xs = [] by simp [rSums, hk])
    go_enter Tryz.func22, Tryz.ntmps22
    go_wp2_with fail
    refine (impl_ImageValid_c _ _ _ _ xs _ (hr.alloc _) hn).mono ?_
    rw [hk]
    rintro e w1 ⟨rfl, hb1⟩
    go_wp2
    go_ret
    exact ⟨none, 0, 0, rfl, Nat.le_refl _, by (repeat (first | exact Below.refl _ _ | assumption | refine lo_alloc ?_ _ | refine lo_set ?_ (by simp; try omega) _ | refine Below.drew ?_ | refine below_drewN ?_ _ | refine lo_trans ?_ (by assumption) | refine lo_wr ?_ (by assumption) (by omega))), by rw [hS.out]; exact Own.nil_ _ _ _⟩
  | true =>
    have hS := Lib.hid (show rSums W xs = rsum xs by simp [rSums, hk])
    have hbd := okB_bd hk
    rw [hr.1] at hbd
    have hmk := make_row n (by omega)
    go_enter Tryz.func22, Tryz.ntmps22
    go_wp2_with fail
    refine (impl_ImageValid_c _ _ _ _ xs _ (hr.alloc _) hn).mono ?_
    rw [hk]
    rintro e w1 ⟨rfl, hb1⟩
    have hk' := Lib.hid hk; clear hk
    have hk1 : Blk w1 w.heap.size _ _ := (Blk.new w 25 #[.int .i64 W, .slice A n c]).next hb1
    have c1 := hk1.cell 1
    have d1 := (hk1.alloc (.cells (madeCells #[Value.int IntKind.i64 0] n) 3)).cell 1
    have hz1 := hk1.lt
    have hb0 : Blk (w1.alloc (.cells (madeCells #[Value.int IntKind.i64 0] n) 3)) w1.heap.size 3 (ints (List.replicate n 0)) := by rw [← made_ints]; exact Blk.new _ _ _
    have hB0 : Below w.heap.size w (w1.alloc (.cells (madeCells #[Value.int IntKind.i64 0] n) 3)) := by (repeat (first | exact Below.refl _ _ | assumption | refine lo_alloc ?_ _ | refine lo_set ?_ (by simp; try omega) _ | refine Below.drew ?_ | refine below_drewN ?_ _ | refine lo_trans ?_ (by assumption) | refine lo_wr ?_ (by assumption) (by omega)))
    go_wp2
    go_loopw [16] (fun i wr => ∃ k : Nat, k ≤ n ∧ i = .int .i64 k ∧ Below w.heap.size w wr ∧ Blk wr w1.heap.size 3 (ints ((rsum xs).take k ++ List.replicate (n - k) 0))) (fun i _ => n - (intOf i).toNat)
    case atStart => exact ⟨0, Nat.zero_le _, rfl, hB0, hb0⟩
    case round =>
      clear hB0 hb0 c1 d1
      obtain ⟨k, hk, rfl, hB, hblk⟩ := hrel
      have hz2 := hblk.lt
      by_cases hlt : k < n
      · obtain ⟨r, hr1, hr2⟩ := okB_at hk'.out (k := k) (by rw [hr.1]; exact hlt)
        obtain ⟨b, off, rfl, hb, hc⟩ := (hr.next hB).at_ hlt
        have hst := Lib.hid (rsum_step xs n k hr.1 hlt)
        rw [hr1] at hc hst
        have hcc := hblk.icell (k := k) (by simp [rsum, hr.1]; omega)
        have hff := hblk.frozen k
        have H := Lib.hid (hblk.iset k (pop r : Nat)); clear hblk hr1
        go_wp2_with (go_at_call 48; refine (ones_c r _ hr2).mono ?_; rintro e w' ⟨rfl, rfl⟩)
        go_roundw
        case rel => exact ⟨k + 1, by omega, by go_num, lo_set hB (by simp; omega) _, by rw [← hst.out]; exact H.out⟩
        case measure => simp [intOf]; omega
      · obtain rfl : k = n := by omega
        go_wp2
        go_ret
        refine ⟨_, _, _, rfl, Nat.le_refl _, hB, ?_⟩
        rw [hS.out]
        exact Own.of_blk (by simpa [List.take_of_length_le, rsum, hr.1] using hblk) (by omega) (by simp [rsum, hr.1])
set_option maxHeartbeats 1000000 in
theorem ColSums_k (W : Int) (A : Option Addr) (n c : Nat) (xs : List Int) (w : World) (hr : Rd w A n xs) (hn : n ≤ 1125899906842624) :
    Calls Tryz.prog 23 #[.agg #[.int .i64 W, .slice A n c]] w fun e w' => ∃ R r d, e = .returned (.slice R r d) ∧ r ≤ d ∧ Below w.heap.size w w' ∧ Own w' w.heap.size R r (cSums W xs) := by
  cases hk : okB W xs with
  | false =>
    have hS := Lib.hid (show cSums W xs = [] by simp [cSums, hk])
    go_enter Tryz.func23, Tryz.ntmps23
    go_wp2_with fail
    refine (impl_ImageValid_c _ _ _ _ xs _ (hr.alloc _) hn).mono ?_
    rw [hk]
    rintro e w1 ⟨rfl, hb1⟩
    go_wp2
    go_ret
    exact ⟨none, 0, 0, rfl, Nat.le_refl _, by (repeat (first | exact Below.refl _ _ | assumption | refine lo_alloc ?_ _ | refine lo_set ?_ (by simp; try omega) _ | refine Below.drew ?_ | refine below_drewN ?_ _ | refine lo_trans ?_ (by assumption) | refine lo_wr ?_ (by assumption) (by omega))), by rw [hS.out]; exact Own.nil_ _ _ _⟩
  | true =>
    have hS := Lib.hid (show cSums W xs = csum W.toNat xs by simp [cSums, hk])
    have hbd := okB_bd hk
    rw [hr.1] at hbd
    obtain ⟨m, rfl⟩ := Int.eq_ofNat_of_zero_le (show 0 ≤ W by omega)
    rw [Int.toNat_natCast] at hS
    have hmk := make_row m (by omega)
    go_enter Tryz.func23, Tryz.ntmps23
    go_wp2_with fail
    refine (impl_ImageValid_c _ _ _ _ xs _ (hr.alloc _) hn).mono ?_
    rw [hk]
    rintro e w1 ⟨rfl, hb1⟩
    have hk' := Lib.hid hk; clear hk
    have hk1 : Blk w1 w.heap.size _ _ := (Blk.new w 25 #[.int .i64 m, .slice A n c]).next hb1
    have c0 := hk1.cell 0
    have d1 := (hk1.alloc (.cells (madeCells #[Value.int IntKind.i64 0] m) 3)).cell 1
    have hz1 := hk1.lt
    have hb0 : Blk (w1.alloc (.cells (madeCells #[Value.int IntKind.i64 0] m) 3)) w1.heap.size 3 (ints (cst m xs 0 0)) := by rw [cst_zero, ← made_ints]; exact Blk.new _ _ _
    have hB0 : Below w.heap.size w (w1.alloc (.cells (madeCells #[Value.int IntKind.i64 0] m) 3)) := by (repeat (first | exact Below.refl _ _ | assumption | refine lo_alloc ?_ _ | refine lo_set ?_ (by simp; try omega) _ | refine Below.drew ?_ | refine below_drewN ?_ _ | refine lo_trans ?_ (by assumption) | refine lo_wr ?_ (by assumption) (by omega)))
    go_wp2
    go_loopw [16] (fun i wr => ∃ k : Nat, k ≤ n ∧ i = .int .i64 k ∧ Below w.heap.size w wr ∧ Blk wr w1.heap.size 3 (ints (cst m xs k 0))) (fun i _ => n - (intOf i).toNat)
    case atStart => exact ⟨0, Nat.zero_le _, rfl, hB0, hb0⟩
    case round =>
      clear hB0 hb0 c0 d1
      obtain ⟨k, hk, rfl, hB, hblk⟩ := hrel
      obtain ⟨wo, rfl⟩ : ∃ wo : World, wo = wr := ⟨_, rfl⟩
      by_cases hlt : k < n
      · obtain ⟨r, hr1, hr2⟩ := okB_at hk'.out (k := k) (by rw [hr.1]; exact hlt)
        obtain ⟨b, off, rfl, hb, hc⟩ := (hr.next hB).at_ hlt
        rw [hr1] at hc
        have hr1' := Lib.hid hr1; clear hr1
        go_wp2
        go_loopw [22] (fun i wr => ∃ j : Nat, j ≤ m ∧ i = .int .i64 j ∧ Below w.heap.size w wr ∧ Blk wr w1.heap.size 3 (ints (cst m xs k j))) (fun i _ => m - (intOf i).toNat)
        case atStart => exact ⟨0, Nat.zero_le _, rfl, hB, hblk⟩
        case round =>
          clear hB hblk hb hc
          obtain ⟨j, hj, rfl, hB, hblk⟩ := hrel
          have hz2 := hblk.lt
          by_cases hlt2 : j < m
          · have hcc := hblk.icell (k := j) (by rw [cst_len]; exact hlt2)
            rw [cst_get hlt2] at hcc
            have hff := hblk.frozen j
            have hV := Lib.hid (cst_val xs k j r (by rw [hr.1]; omega) hr2 hr1'.out)
            have H := Lib.hid (hblk.iset j ((ccnt (xs.take k) j : Int) + (if (xs[k]?.getD 0).toNat.testBit j then 1 else 0)))
            rw [cst_set] at H
            clear hblk
            go_wp2
            go_region
            rw [hV.out]
            go_wp2
            go_roundw
            case rel => exact ⟨j + 1, by omega, by go_num, Below.drew (lo_set hB (by simp; omega) _), H.out.drew⟩
            case measure => simp [intOf]; omega
          · obtain rfl : j = m := by omega
            rw [cst_next (by rw [hr.1]; exact hlt)] at hblk
            go_wp2
            go_roundw
            case rel => exact ⟨k + 1, by omega, by go_num, hB, hblk⟩
            case measure => simp [intOf]; omega
      · obtain rfl : k = n := by omega
        go_wp2
        go_ret
        refine ⟨_, _, _, rfl, Nat.le_refl _, hB, ?_⟩
        rw [hS.out]
        exact Own.of_blk (by rw [← cst_done, hr.1]; exact hblk) (by omega) (by simp [csum])
set_option maxHeartbeats 8000000 in
theorem TableSums_k (g m h : Nat) (d : Int) (xs : List Int) (w : World) (hT : Tab w g m h (rowR xs m)) (hx : xs.length = h) (hh : 1 ≤ h ∧ h ≤ 6) (hm : 1 ≤ m ∧ m ≤ 6) (hD : Dir w) :
    Calls Tryz.prog 53 #[.slice (some ⟨g, 0, none⟩) h h, .int .i64 d] w fun e w' => ∃ (R : Option Addr) (r c : Nat), e = .returned (.slice R r c) ∧ r ≤ c ∧ Own w' w.heap.size R r (dirL d m xs) ∧ Below w.heap.size w w' := by
  cases hd : dirB d with
  | false =>
    have hd' := Lib.hid hd
    have hL0 := Lib.hid (show dirL d m xs = [] by rw [dirL, hd]; rfl)
    clear hd
    go_enter Tryz.func53, Tryz.ntmps53
    go_wp2_with fail
    refine (TableValid_c g m h xs _ hT hh hm).mono ?_
    rintro e w1 ⟨rfl, rfl⟩
    go_wp2_with fail
    refine (isDir_c d _).mono ?_
    rw [hd'.out]
    rintro e w2 ⟨rfl, rfl⟩
    go_wp2
    go_ret
    exact ⟨none, 0, 0, rfl, Nat.le_refl _, by rw [hL0.out]; exact Own.nil_ _ _ _, Below.refl _ _⟩
  | true =>
    have hd' := Lib.hid hd
    obtain ⟨d, rfl⟩ : ∃ x : Nat, d = (x : Int) := ⟨d.toNat, by simp [dirB] at hd; omega⟩
    have hd8 : d < 8 := by simp [dirB] at hd; omega
    have hfin := Lib.hid (show dirL (d : Int) m xs = dst xs d h m h 0 by rw [dirL, hd, if_pos rfl, Int.toNat_natCast, dirS, hx])
    have hN := lnK_lt hd8 hh.2 hm.2 (i := 0) (j := 0) (by omega) (by omega)
    obtain ⟨l1, l2, l3, l4, l5, l6⟩ := ln_range d hd8 h (by omega) m (by omega) 0 (by omega) 0 (by omega)
    have hNe : hiD d h m - loD d h m + 1 = ((nD d h m : Nat) : Int) := by unfold nD; omega
    have hK := Lib.hid (fun i j (hi : i < h) (hj : j < m) => lnK_lt (i := i) (j := j) hd8 hh.2 hm.2 hi hj)
    have hS := Lib.hid (fun i j (hi : i < h) (hj : j < m) => dst_set (xs := xs) (i := i) (j := j) hd8 hh.2 hm.2 hi hj)
    have hz := Lib.hid (dst_zero xs d h m)
    have hlen := Lib.hid (fun i j => dst_len xs d h m i j)
    have hnx := Lib.hid (fun i => dst_next xs d h m i)
    have hval := Lib.hid (fun i j k (hk : k < nD d h m) => (dst_get (xs := xs) (d := d) (h := h) (m := m) (i := i) (j := j) hk))
    clear hd l1 l2
    generalize hlo : loD d h m = lo at hNe hK l3 l4 hval
    generalize hhi : hiD d h m = hi at hNe l5 l6
    have hlo' := Lib.hid hlo
    have hhi' := Lib.hid hhi
    obtain ⟨N, hNN⟩ : ∃ N, Hid (nD d h m = N) := ⟨_, Lib.hid rfl⟩
    rw [hNN.out] at hNe hK hval hlen hz hN
    obtain ⟨_, _, hN35⟩ := hN
    have eN : wrap64 (wrap64 (hi - lo) + 1) = (N : Int) := by
      rw [IntWalk.wrap64_in (hi - lo) (by omega), IntWalk.wrap64_in _ (by omega)]; exact hNe
    have hmk := make_row N (by omega)
    clear hlo hhi
    go_enter Tryz.func53, Tryz.ntmps53
    go_wp2_with fail
    refine (TableValid_c g m h xs _ hT hh hm).mono ?_
    rintro e w1 ⟨rfl, rfl⟩
    go_wp2_with fail
    refine (isDir_c (d : Int) _).mono ?_
    rw [hd'.out]
    rintro e w2 ⟨rfl, rfl⟩
    have t0 := hT.row (i := 0) (by omega)
    go_wp2_with fail
    refine (linesOf_c d h m _ hd8 hh hm hD).mono ?_
    rw [hlo'.out, hhi'.out]
    rintro e w3 ⟨rfl, hb3⟩
    have hO3 := Blk.new w3 3 (madeCells #[.int .i64 0] N)
    have hB3 := lo_alloc hb3 (.cells (madeCells #[.int .i64 0] N) 3)
    rw [made_ints, ← hz.out] at hO3
    rw [made_ints, ← hz.out] at hB3
    have hs3 := hb3.size
    go_wp2
    rw [made_ints, ← hz.out]
    obtain ⟨o, ho⟩ : ∃ o, o = w3.heap.size := ⟨_, rfl⟩
    rw [← ho] at hO3 hs3 ⊢
    have ho1 : w2.heap.size ≤ o := by omega
    generalize w3.alloc (.cells (ints (dst xs d h m 0 0)) 3) = w4 at hO3 hB3 ⊢
    clear ho hb3 hs3 hmk t0
    go_loopw [38] (fun i wr => ∃ k : Nat, k ≤ h ∧ i = .int .i64 k ∧ Blk wr o 3 (ints (dst xs d h m k 0)) ∧ Below w2.heap.size w2 wr) (fun i _ => h - (intOf i).toNat)
    case atStart => exact ⟨0, Nat.zero_le _, rfl, hO3, hB3⟩
    case round =>
      clear hO3 hB3
      obtain ⟨k, hk, rfl, hO, hB⟩ := hrel
      by_cases hlt : k < h
      · have hTr := hT.next hB
        have tk := hTr.row hlt
        clear hTr
        go_wp2
        go_loopw [45] (fun j wr => ∃ q : Nat, q ≤ m ∧ j = .int .i64 q ∧ Blk wr o 3 (ints (dst xs d h m k q)) ∧ Below w2.heap.size w2 wr) (fun j _ => m - (intOf j).toNat)
        case atStart => exact ⟨0, Nat.zero_le _, rfl, hO, hB⟩
        case round =>
          clear hO hB tk
          obtain ⟨q, hq, rfl, hO, hB⟩ := hrel
          by_cases hlt2 : q < m
          · have hRr := ((hT.next hB).2 k hlt).1
            have c0 := hRr.icell (k := q) (by simp [rowR]; omega)
            rw [rowR_at xs hlt2] at c0
            have hb1 := b1_le (cellF xs k q)
            obtain ⟨e1, e2, _⟩ := hK.out k q hlt hlt2
            have hst := Lib.hid (hS.out k q hlt hlt2)
            have hvl := hval.out k q _ e1
            have hdc := dcnt_le xs d m k q (lo + (lnK d h m k q : Int))
            have hkm : k * m ≤ 6 * 6 := Nat.mul_le_mul (by omega) (by omega)
            rw [hvl] at hst
            have hlen' := hlen.out k q
            generalize lnK d h m k q = K at e1 e2 hst hvl hdc
            generalize dcnt xs d m k q (lo + (K : Int)) = v at hst hvl hdc
            generalize b1 (cellF xs k q) = n at c0 hb1 hst
            clear hRr
            go_wp2_with fail
            refine (lineOf_c d k q _ hd8 (by omega) (by omega) (hD.next hB)).mono ?_
            have ew : wrap64 (lnD d k q - lo) = (K : Int) := by rw [e2]; exact IntWalk.wrap64_in _ (by omega)
            generalize lnD d k q = ln at e2 ew
            rintro e w5 ⟨rfl, hb5⟩
            have hO5 := hO.next hb5
            have hB5 := lo_trans hB hb5
            have c1 := hO5.icell (k := K) (by rw [hlen']; exact e1)
            rw [hvl] at c1
            have f1 := hO5.frozen K
            have hset := Lib.hid (hO5.iset K ((v : Int) + (n : Int)))
            have hlow := lo_set hB5 (p := ⟨o, K, none⟩) ho1 (.int .i64 ((v : Int) + (n : Int)))
            have eK : ln - lo = (K : Int) := e2
            clear e2 hO hO5 hvl hlen'
            go_wp2
            go_roundw
            case rel =>
              refine ⟨q + 1, by omega, by go_num, ?_, hlow⟩
              rw [← hst.out]
              exact hset.out
            case measure => simp [intOf]; omega
          · obtain rfl : q = m := by omega
            have hO' := Lib.hid hO
            rw [hnx.out k] at hO'
            go_wp2
            go_roundw
            case rel => exact ⟨k + 1, by omega, by go_num, hO'.out, hB⟩
            case measure => simp [intOf]; omega
      · obtain rfl : k = h := by omega
        have hO' := Own.of_blk (lo := w2.heap.size) hO ho1 (hlen.out k 0)
        rw [← hfin.out] at hO'
        go_wp2
        go_ret
        exact ⟨_, _, _, rfl, Nat.le_refl _, hO', hB⟩
set_option maxHeartbeats 4000000 in
theorem DirSums_k (W : Int) (A : Option Addr) (n c : Nat) (xs : List Int) (d : Int) (w : World) (hr : Rd w A n xs) (hn : n ≤ 1000) (hD : Dir w) :
    Calls Tryz.prog 20 #[.agg #[.int .i64 W, .slice A n c], .int .i64 d] w fun e w' => ∃ (R : Option Addr) (r c' : Nat), e = .returned (.slice R r c') ∧ r ≤ c' ∧ Own w' w.heap.size R r (dirW W xs d) ∧ Below w.heap.size w w' := by
  have hB0 := lo_alloc (Below.refl w.heap.size w) (.cells #[.int .i64 W, .slice A n c] 25)
  cases hk : okB W xs with
  | false =>
    have hT := Lib.hid (show dirW W xs d = [] by rw [dirW, hk]; rfl)
    have hno := fun w hr => TableOf_no W A n c xs w hr hn hk
    clear hk
    go_enter Tryz.func20, Tryz.ntmps20
    go_wp2_with fail
    refine (hno _ (hr.next hB0)).mono ?_
    rintro e w1 ⟨rfl, hb1⟩
    go_wp2
    go_ret
    exact ⟨none, 0, 0, rfl, Nat.le_refl _, by rw [hT.out]; exact Own.nil_ _ _ _, lo_trans hB0 hb1⟩
  | true =>
    have hbd := okB_bd hk
    obtain ⟨m, rfl⟩ : ∃ m : Nat, W = (m : Int) := ⟨W.toNat, by omega⟩
    have hT := Lib.hid (show dirW (m : Int) xs d = dirL d m xs by rw [dirW, hk, if_pos rfl, Int.toNat_natCast])
    have hxl := hr.1
    rw [hxl] at hbd
    have hxl' := Lib.hid hxl
    have hyes := fun w hr => TableOf_yes m A n c xs w hr hk
    clear hk hxl
    go_enter Tryz.func20, Tryz.ntmps20
    go_wp2_with fail
    refine (hyes _ (hr.next hB0)).mono ?_
    rintro e w1 ⟨g, rfl, hg, hT1, hb1⟩
    have hB1 := lo_trans hB0 hb1
    have hs1 := hB1.size
    go_wp2_with fail
    refine (TableSums_k g m n d xs _ hT1 hxl'.out ⟨by omega, by omega⟩ ⟨by omega, by omega⟩ (hD.next hB1)).mono ?_
    rintro e w2 ⟨R, r, c2, rfl, hc2, hO, hb2⟩
    go_wp2
    go_ret
    exact ⟨R, r, c2, rfl, hc2, by rw [hT.out]; exact hO.mono hs1, lo_trans hB1 hb2⟩

theorem sl_one' (g n d k : Nat) (hk : k < n) (hn : n ≤ d) (w : World) : (Instr.slice 23 (.slice (some ⟨g, 0, none⟩) n d) (some (.int .i64 (k : Int))) (some (.int .i64 ((k : Int) + 1))) none).run Tryz.prog w = .ok (.slice (some ⟨g, k, none⟩) 1 (d - k)) w := by
  have h1 : ¬ d = k := by omega
  rw [run_slice_lh (P := Tryz.prog) w 23 _ n d Tryz.underlying23 .i64 .i64 k (k + 1) (by omega) (by omega) (by omega)]
  have e1 : ((k : Int) + 1).toNat = k + 1 := by omega
  simp [go_sem, sliced, h1, e1]
theorem Rd.one' {w : World} {g n k : Nat} {xs : List Int} (h : Rd w (some ⟨g, 0, none⟩) n xs) (hk : k < n) : Rd w (some ⟨g, k, none⟩) 1 [xs[k]?.getD 0] := by
  obtain ⟨b, off, e, hb, hc⟩ := h.2 (by omega)
  cases e
  refine ⟨rfl, fun _ => ⟨g, k, rfl, hb, fun j y hy => ?_⟩⟩
  cases j with
  | zero =>
    have hkl : k < xs.length := by rw [h.1]; exact hk
    have := hc k _ (List.getElem?_eq_getElem hkl)
    rw [List.getElem?_eq_getElem hkl, Option.getD_some] at hy
    cases hy
    rwa [Nat.zero_add] at this
  | succ j => cases hy
theorem dig_step (p : Bs) {ys : List Int} {k : Nat} (hk : k < ys.length) (hy : ∀ y ∈ ys, 0 ≤ y ∧ y ≤ 9) : p ++ decs (ys.take (k + 1)) = (p ++ decs (ys.take k) ++ [32]) ++ digS [ys[k]?.getD 0] := by
  have h := hy _ (mem_at hk)
  rw [decs_take hk, dec2_one (by omega)]
  simp [digS]
theorem rsum_dig {m : Nat} {xs : List Int} (hk : okB (m : Int) xs = true) : ∀ y ∈ rsum xs, 0 ≤ y ∧ y ≤ 9 := by
  intro y hy
  obtain ⟨x, _, rfl⟩ := List.mem_map.1 hy
  have hb := okB_bd hk
  have := pop_le x.toNat
  omega
theorem csum_dig {m : Nat} {xs : List Int} (hk : okB (m : Int) xs = true) : ∀ y ∈ csum m xs, 0 ≤ y ∧ y ≤ 9 := by
  intro y hy
  obtain ⟨j, _, rfl⟩ := List.mem_map.1 hy
  have hb := okB_bd hk
  have := ccnt_le xs j
  omega
end Go.Proofs.YtpeiolimdglmhaaGreatDoor
