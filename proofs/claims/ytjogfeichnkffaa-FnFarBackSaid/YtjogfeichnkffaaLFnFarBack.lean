/- The law FnFarBack walked. -/
import Derived.Test.YtjogfeichnkffaaMathR
import Derived.Test.YtjogfeichnkffaaDq
import Derived.Test.YtjogfeichnkffaaNl
import Derived.Deep.QuietTactic
import Derived.BigQuiet
namespace Go.Proofs.Ytjogfeichnkffaa
open Go.RowKit
set_option maxRecDepth 100000

set_option maxHeartbeats 8000000 in
theorem law_FarBack (A : Option Addr) (n c : Nat) (w : World) (hr : RdB w A n) (hb : n ≤ maxLen ∧ n ≤ c) :
    Calls Try.prog 7 #[.slice A n c] w fun e w' => e = .returned (.bool true) ∧ Below w.heap.size w w' := by
  by_cases h1 : 1048576 < n
  · go_enter Try.func7, Try.ntmps7
    go_wp2
    go_ret
    exact ⟨rfl, by (repeat (first | exact Below.refl _ _ | assumption | refine lo_alloc ?_ _ | refine lo_set ?_ (by simp; try omega) _ | refine Below.drew ?_ | refine below_drewN ?_ _ | refine lo_trans ?_ (by assumption) | refine lo_wr ?_ (by assumption) (by omega)))⟩
  have g1 : decide ((1048576 : Int) < (n : Int)) = false := by simp; omega
  go_enter Try.func7, Try.ntmps7
  go_wp2_with fail
  refine (DrawNeighborFar_c A n c _ hr (by omega) hb.2).mono ?_
  rintro e w1 ⟨W, X, x, x', xs, V, Y, y, y', ys, rfl, hx6, hy6, hX, hY, hb1⟩
  have hs1 := hb1.size
  clear hb
  obtain ⟨oa, hoa⟩ : ∃ oa, oa = w1.heap.size := ⟨_, rfl⟩
  obtain ⟨wA, hwA⟩ : ∃ wA, wA = (w1.alloc (.cells #[.int .i64 W, .slice X x x'] 27)).alloc (.cells #[.int .i64 V, .slice Y y y'] 27) := ⟨_, rfl⟩
  have hkA : Blk wA oa 27 #[.int .i64 W, .slice X x x'] := by rw [hwA, hoa]; exact (Blk.new w1 _ _).alloc _
  have hkB : Blk wA (oa + 1) 27 #[.int .i64 V, .slice Y y y'] := by rw [hwA, hoa]; exact heap_at2 w1 _ _ _
  have hXA : Rd wA X x xs := by rw [hwA]; exact (hX.alloc _).alloc _
  have hYA : Rd wA Y y ys := by rw [hwA]; exact (hY.alloc _).alloc _
  have hBA : Below w.heap.size w wA := by rw [hwA]; exact lo_alloc (lo_alloc hb1 _) _
  clear hX hY hb1
  generalize hv : farW W xs V ys = v
  have hv' := Lib.hid hv
  clear hv
  go_wp2_with fail
  rw [← hoa, ← hwA]
  have hoa' := Lib.hid hoa; clear hoa
  have hwA' := Lib.hid hwA; clear hwA
  refine (impl_NeighborFar_c _ _ _ _ xs _ _ _ _ ys _ hXA (by omega) hYA (by omega)).mono ?_
  rw [hv'.out]
  rintro e w2 ⟨rfl, hb2⟩
  have hkA2 := hkA.next hb2
  have hkB2 := hkB.next hb2
  have hX2 := hXA.next hb2
  have hY2 := hYA.next hb2
  have a0 := hkA2.cell 0
  have a1 := hkA2.cell 1
  have c0 := hkB2.cell 0
  have c1 := hkB2.cell 1
  go_wp2_with fail
  refine (spec_NeighborFar_c _ _ _ _ xs _ _ _ _ ys _ hX2 (by omega) hY2 (by omega)).mono ?_
  rw [hv'.out]
  rintro e w3 ⟨rfl, hb3⟩
  have hkA3 := hkA2.next hb3
  have hkB3 := hkB2.next hb3
  have hX3 := hX2.next hb3
  have hY3 := hY2.next hb3
  have hB3 : Below w.heap.size w w3 := lo_trans (lo_trans hBA hb2) hb3
  clear a0 a1 c0 c1 hkA hkA2 hkB hkB2 hXA hYA hX2 hY2 hBA hb2 hb3
  by_cases hv0 : v < 0
  · go_wp2
    go_ret
    exact ⟨rfl, hB3⟩
  obtain ⟨m, rfl, rfl, hk, hj, hl, hc, hvl⟩ := farW_ge (show 0 ≤ farW W xs V ys by rw [hv'.out]; omega)
  rw [hv'.out] at hvl
  have hk' := Lib.hid hk
  have hj' := Lib.hid hj
  have hbd := okB_bd hk
  have hfb := Lib.hid (farW_back hk hj hl hc)
  have hz := far_zero (ys := ys) hk (by omega)
  have ho := far_one (ys := ys) hk (by omega)
  rw [← hvl] at hfb hz ho
  have hz' := Lib.hid hz
  have ho' := Lib.hid ho
  have hxl : xs.length = x := hX3.1
  rw [hxl] at hbd
  have hvu : v ≤ 65536 := by rw [hvl]; exact farV_bd hc
  clear hvl hv' hk hj hl hc hxl hz ho
  have a0 := hkA3.cell 0
  have a1 := hkA3.cell 1
  go_wp2_with fail
  refine (impl_ImageNeighbors_c _ _ _ _ xs _ hX3 (by omega)).mono ?_
  rintro e w4 ⟨R, cR, es, rfl, hb4, hI4, hE4⟩
  have hnW : nbrsW (m : Int) xs = nbrs m xs := by simp [nbrsW, hk'.out]
  have hfl : es.length < 1600 := by rw [hE4.len]; exact nbrsW_len _ _
  rw [hnW] at hE4
  have hE4' := Lib.hid hE4
  have hR4 := hI4.rdI
  have hkA4 := hkA3.next hb4
  have hkB4 := hkB3.next hb4
  have hX4 := hX3.next hb4
  have hY4 := hY3.next hb4
  have hB4 := lo_trans hB3 hb4
  clear a0 a1 hkA3 hkB3 hX3 hY3 hB3 hb4 hI4 hnW hE4
  go_wp2
  go_loopw [7, 9] (fun f i wr => ∃ (k : Nat) (t : Bool), k ≤ es.length ∧ f = .bool t ∧ i = .int .i64 k ∧ Below w4.heap.size w4 wr ∧ Hid (t = ((nbrs m xs).take k).any (fun z => z == ys))) (fun _ i _ => es.length - (intOf i).toNat)
  case atStart => exact ⟨0, false, Nat.zero_le _, rfl, rfl, Below.refl _ _, Lib.hid (by simp)⟩
  case round =>
    obtain ⟨k, t, hk, rfl, rfl, hbl, ht⟩ := hrel
    have hkAr := hkA4.next hbl
    have hkBr := hkB4.next hbl
    have hXr := hX4.next hbl
    have hYr := hY4.next hbl
    by_cases hlt : k < es.length
    · obtain ⟨e, hek⟩ : ∃ e, es[k]? = some e := ⟨es[k], List.getElem?_eq_getElem hlt⟩
      obtain ⟨gb, of5, rfl, hgb, c0, c1, hR1⟩ := (hR4.next hbl).at_ hlt hek
      obtain ⟨We, Ae, ke, xe⟩ := e
      obtain ⟨f1, f2⟩ := hE4'.out.at_ hek
      dsimp only at c0 c1 hR1 f1 f2
      subst f1
      have hN : Hid (((nbrs m xs).take (k + 1)).any (fun z => z == ys) = (t || (xe == ys))) := Lib.hid (by
        obtain ⟨hk2, hk3⟩ := List.getElem?_eq_some_iff.1 f2
        rw [List.take_succ_eq_append_getElem hk2, List.any_append, ← ht.out, hk3]; simp)
      have hxe6 : xe.length ≤ 6 := by have h1 := nbrs_ok hk'.out (List.mem_of_getElem? f2); have h2 : xs.length = x := hXr.1; omega
      rw [Nat.mul_comm 2] at c0 c1
      have hki : (k : Int) < (es.length : Int) := by omega
      have hki0 : (0 : Int) ≤ (k : Int) := by omega
      have b0 := hkBr.cell 0
      have b1 := hkBr.cell 1
      clear hek f2 ht
      cases t with
      | true =>
        go_wp2
        go_quiet (fail)
        go_wp2
        go_roundw
        case rel => exact ⟨k + 1, true, by omega, rfl, by go_num, below_drewN hbl _, Lib.hid (by rw [hN.out]; rfl)⟩
        case measure => simp [intOf]; omega
      | false =>
        go_wp2
        go_region_held3 (fun w' => w'.cell? ⟨gb, of5 + k * 2, none⟩ = some (.int .i64 (m : Int)) ∧ w'.cell? ⟨gb, of5 + k * 2 + 1, none⟩ = some (.slice Ae xe.length ke) ∧ w'.cell? ⟨oa + 1, 0, none⟩ = some (.int .i64 (m : Int)) ∧ w'.cell? ⟨oa + 1, 1, none⟩ = some (.slice Y y y'))
          (first
            | go_keep
            | exact ⟨(hb3.cell (p := ⟨gb, of5 + k * 2, none⟩) hgb).trans c0, (hb3.cell (p := ⟨gb, of5 + k * 2 + 1, none⟩) hgb).trans c1, (hkBr.drew.next hb3).cell 0, (hkBr.drew.next hb3).cell 1⟩)
          (first
            | (go_at_call 21; refine (lsameImage_c m m Ae Y xe.length y ke y' xe ys _ hR1.drew hYr.drew (by omega)).mono ?_; rintro e w3 ⟨rfl, hb3⟩))
        have hb5 := lo_trans hbl (lo_trans (Below.drew (Below.refl wr.heap.size wr)) hb3)
        have hd : decide ((m : Int) = (m : Int)) = true := decide_eq_true rfl
        by_cases hxe : xe = ys
        · have hd2 : decide (xe = ys) = true := decide_eq_true hxe
          have hN2 := Lib.hid (hN.out.trans (show (false || (xe == ys)) = true by simp [hxe]))
          clear hxe
          go_wp2
          go_roundw
          case rel => exact ⟨k + 1, true, by omega, by simp [hd2], by go_num, hb5, Lib.hid hN2.out.symm⟩
          case measure => simp [intOf]; omega
        · have hd2 : decide (xe = ys) = false := decide_eq_false hxe
          have hN2 := Lib.hid (hN.out.trans (show (false || (xe == ys)) = false by simp [hxe]))
          clear hxe
          go_wp2
          go_roundw
          case rel => exact ⟨k + 1, false, by omega, by simp [hd2], by go_num, hb5, Lib.hid hN2.out.symm⟩
          case measure => simp [intOf]; omega
    · have htt : Hid (t = true ↔ v = 1) := Lib.hid (by
        rw [ht.out, List.take_of_length_le (by rw [← hE4'.out.len]; omega), ho'.out, List.any_eq_true]
        constructor
        · rintro ⟨z, hz, h1⟩
          have : z = ys := by simpa using h1
          rw [← this]; exact hz
        · intro h1
          exact ⟨ys, h1, by simp⟩)
      have a0 := hkAr.cell 0
      have a1 := hkAr.cell 1
      have b0 := hkBr.cell 0
      have b1 := hkBr.cell 1
      clear ht
      go_wp2_with fail
      refine (impl_NeighborFar_c _ _ _ _ ys _ _ _ _ xs _ hYr (by omega) hXr (by omega)).mono ?_
      rw [hfb.out]
      rintro e w5 ⟨rfl, hb5⟩
      have hkA5 := hkAr.next hb5
      have hkB5 := hkBr.next hb5
      have hX5 := hXr.next hb5
      have hY5 := hYr.next hb5
      have hB5 := lo_trans hB4 (lo_trans hbl hb5)
      clear a0 a1 b0 b1 hkAr hkBr hXr hYr
      have a0 := hkA5.cell 0
      have a1 := hkA5.cell 1
      have b0 := hkB5.cell 0
      have b1 := hkB5.cell 1
      have hd : decide ((m : Int) = (m : Int)) = true := decide_eq_true rfl
      go_wp2_with fail
      refine (lsameImage_c m m X Y x y x' y' xs ys _ hX5 hY5 (by omega)).mono ?_
      rintro e w6 ⟨rfl, hb6⟩
      have hB6 := lo_trans hB5 hb6
      by_cases hxy : xs = ys
      · have hd2 : decide (xs = ys) = true := decide_eq_true hxy
        have hv00 := hz'.out.2 hxy
        have ht2 : t = false := by
          cases t with
          | false => rfl
          | true => have := htt.out.1 rfl; omega
        clear hxy
        subst hv00
        subst ht2
        go_wp2
        go_ret
        exact ⟨rfl, hB6⟩
      · have hd2 : decide (xs = ys) = false := decide_eq_false hxy
        have hv1 : (v == 0) = false := beq_eq_false_iff_ne.2 (fun h => hxy (hz'.out.1 h))
        clear hxy
        cases t with
        | true =>
          have hv2 := htt.out.1 rfl
          subst hv2
          go_wp2
          go_ret
          exact ⟨rfl, hB6⟩
        | false =>
          have hv3 : (v == 1) = false := beq_eq_false_iff_ne.2 (fun h => by have := htt.out.2 h; cases this)
          go_wp2
          go_ret
          exact ⟨rfl, hB6⟩
end Go.Proofs.Ytjogfeichnkffaa
