/- The law FnFarStep walked. -/
import Derived.Test.YtjogfeichnkffaaMathR
import Derived.Test.YtjogfeichnkffaaDq
import Derived.Test.YtjogfeichnkffaaNl
import Derived.Deep.QuietTactic
import Derived.BigQuiet
namespace Go.Proofs.Ytjogfeichnkffaa
open Go.RowKit
set_option maxRecDepth 100000

theorem far_step {m : Nat} {xs ys z : List Int} (h : okB (m : Int) xs = true) (hz : z ∈ nbrs m xs) (h0 : 0 ≤ farV (reach m xs) ys) : farV (reach m xs) ys - 1 ≤ farV (reach m z) ys ∧ farV (reach m z) ys ≤ farV (reach m xs) ys + 1 := by
  obtain ⟨e, he, rfl, e2⟩ := farV_ge h0
  have hzo := (nbrs_ok h hz).1
  have hp := Path.head (nbrs_back h hz) (reach_path he)
  obtain ⟨f, hf, f1, f2⟩ := reach_all hzo hp
  have hq := Path.head hz (reach_path hf)
  rw [f1] at hq
  have h3 := reach_least h he hq
  have h4 := farV_mem (reach_nodup m z) hf
  rw [f1] at h4
  rw [e2, h4]
  omega
theorem far_near {m : Nat} {xs ys : List Int} (h : okB (m : Int) xs = true) (h0 : 0 < farV (reach m xs) ys) : ∃ z ∈ nbrs m xs, farV (reach m z) ys = farV (reach m xs) ys - 1 := by
  obtain ⟨e, he, rfl, e2⟩ := farV_ge (Int.le_of_lt h0)
  have hp := reach_path he
  have hyo := (path_ok h hp).1
  have hb := hp.back h
  obtain ⟨k, hk⟩ : ∃ k, e.2 = k + 1 := ⟨e.2 - 1, by omega⟩
  rw [hk] at hb
  cases hb with
  | step hq hx =>
    rename_i z
    have hzo := (path_ok hyo hq).1
    have hz := nbrs_back hzo hx
    refine ⟨z, hz, ?_⟩
    have h1 := far_step (ys := e.1) h hz (by omega)
    obtain ⟨f, hf, f1, f2⟩ := reach_all hzo (hq.back hyo)
    have h4 := farV_mem (reach_nodup m z) hf
    rw [f1] at h4
    omega

set_option maxHeartbeats 8000000 in
theorem law_FarStep (A : Option Addr) (n c : Nat) (w : World) (hr : RdB w A n) (hb : n ≤ maxLen ∧ n ≤ c) :
    Calls Try.prog 6 #[.slice A n c] w fun e w' => e = .returned (.bool true) ∧ Below w.heap.size w w' := by
  by_cases h1 : 1048576 < n
  · go_enter Try.func6, Try.ntmps6
    go_wp2
    go_ret
    exact ⟨rfl, by (repeat (first | exact Below.refl _ _ | assumption | refine lo_alloc ?_ _ | refine lo_set ?_ (by simp; try omega) _ | refine Below.drew ?_ | refine below_drewN ?_ _ | refine lo_trans ?_ (by assumption) | refine lo_wr ?_ (by assumption) (by omega)))⟩
  have g1 : decide ((1048576 : Int) < (n : Int)) = false := by simp; omega
  go_enter Try.func6, Try.ntmps6
  go_wp2_with fail
  refine (DrawNeighborFar_c A n c _ hr (by omega) hb.2).mono ?_
  rintro e w1 ⟨W, X, x, x', xs, V, Y, y, y', ys, rfl, hx6, hy6, hX, hY, hb1⟩
  have hs1 := hb1.size
  clear hb
  obtain ⟨oa, hoa⟩ : ∃ oa, oa = w1.heap.size := ⟨_, rfl⟩
  obtain ⟨wA, hwA⟩ : ∃ wA, wA = (w1.alloc (.cells #[.int .i64 W, .slice X x x'] 27)).alloc (.cells #[.int .i64 V, .slice Y y y'] 27) := ⟨_, rfl⟩
  have hkA : Blk wA oa 27 #[.int .i64 W, .slice X x x'] := by rw [hwA, hoa]; exact (Blk.new w1 _ _).alloc _
  have hkB : Blk wA (oa + 1) 27 #[.int .i64 V, .slice Y y y'] := by rw [hwA, hoa]; exact heap_at2 w1 _ _ _
  have hXA : Rd wA X x xs := by rw [hwA]; exact (hX.alloc _).alloc _
  have hYA : Rd wA Y y ys := by rw [hwA]; exact (hY.alloc _).alloc _
  have hBA : Below w.heap.size w wA := by rw [hwA]; exact lo_alloc (lo_alloc hb1 _) _
  clear hX hY hb1
  generalize hv : farW W xs V ys = v
  have hv' := Lib.hid hv
  clear hv
  go_wp2_with fail
  rw [← hoa, ← hwA]
  have hoa' := Lib.hid hoa; clear hoa
  have hwA' := Lib.hid hwA; clear hwA
  refine (impl_NeighborFar_c _ _ _ _ xs _ _ _ _ ys _ hXA (by omega) hYA (by omega)).mono ?_
  rw [hv'.out]
  rintro e w2 ⟨rfl, hb2⟩
  have hkA2 := hkA.next hb2
  have hkB2 := hkB.next hb2
  have hX2 := hXA.next hb2
  have hY2 := hYA.next hb2
  have a0 := hkA2.cell 0
  have a1 := hkA2.cell 1
  have c0 := hkB2.cell 0
  have c1 := hkB2.cell 1
  go_wp2_with fail
  refine (spec_NeighborFar_c _ _ _ _ xs _ _ _ _ ys _ hX2 (by omega) hY2 (by omega)).mono ?_
  rw [hv'.out]
  rintro e w3 ⟨rfl, hb3⟩
  have hkA3 := hkA2.next hb3
  have hkB3 := hkB2.next hb3
  have hX3 := hX2.next hb3
  have hY3 := hY2.next hb3
  have hB3 : Below w.heap.size w w3 := lo_trans (lo_trans hBA hb2) hb3
  clear a0 a1 c0 c1 hkA hkA2 hkB hkB2 hXA hYA hX2 hY2 hBA hb2 hb3
  by_cases hv0 : v < 0
  · go_wp2
    go_ret
    exact ⟨rfl, hB3⟩
  obtain ⟨m, rfl, rfl, hk, hj, hl, hc, hvl⟩ := farW_ge (show 0 ≤ farW W xs V ys by rw [hv'.out]; omega)
  rw [hv'.out] at hvl
  have hk' := Lib.hid hk
  have hj' := Lib.hid hj
  have hbd := okB_bd hk
  have hst := Lib.hid (fun z hz => far_step (z := z) (ys := ys) hk hz (by omega))
  have hnr := Lib.hid (fun hp => far_near (ys := ys) hk hp)
  have hzf := Lib.hid (show ∀ z ∈ nbrs m xs, farW (m : Int) z (m : Int) ys = farV (reach m z) ys from fun z hz => by
    have h1 := nbrs_ok hk hz
    exact farW_at h1.1 hj (by omega) (by rw [h1.2]; exact hc))
  rw [← hvl] at hst hnr
  have hxl : xs.length = x := hX3.1
  rw [hxl] at hbd
  have hvu : v ≤ 65536 := by rw [hvl]; exact farV_bd hc
  clear hvl hv' hk hj hl hc hxl
  have a0 := hkA3.cell 0
  have a1 := hkA3.cell 1
  go_wp2_with fail
  refine (impl_ImageNeighbors_c _ _ _ _ xs _ hX3 (by omega)).mono ?_
  rintro e w4 ⟨R, cR, es, rfl, hb4, hI4, hE4⟩
  have hnW : nbrsW (m : Int) xs = nbrs m xs := by simp [nbrsW, hk'.out]
  have hfl : es.length < 1600 := by rw [hE4.len]; exact nbrsW_len _ _
  rw [hnW] at hE4
  have hE4' := Lib.hid hE4
  have hR4 := hI4.rdI
  have hkB4 := hkB3.next hb4
  have hX4 := hX3.next hb4
  have hY4 := hY3.next hb4
  have hB4 := lo_trans hB3 hb4
  clear a0 a1 hkA3 hkB3 hX3 hY3 hB3 hb4 hI4 hnW hE4
  go_wp2
  go_loopw [7, 9] (fun f i wr => ∃ (k : Nat) (t : Bool), k ≤ es.length ∧ f = .bool t ∧ i = .int .i64 k ∧ Below w4.heap.size w4 wr ∧ Hid (t = (decide (v = 0) || ((nbrs m xs).take k).any (fun z => farV (reach m z) ys == v - 1)))) (fun _ i _ => es.length - (intOf i).toNat)
  case atStart => exact ⟨0, decide (v = 0), Nat.zero_le _, by by_cases hz : v = 0 <;> simp [hz], rfl, Below.refl _ _, Lib.hid (by simp)⟩
  case round =>
    obtain ⟨k, t, hk, rfl, rfl, hbl, ht⟩ := hrel
    have hkBr := hkB4.next hbl
    have hYr := hY4.next hbl
    by_cases hlt : k < es.length
    · obtain ⟨e, hek⟩ : ∃ e, es[k]? = some e := ⟨es[k], List.getElem?_eq_getElem hlt⟩
      obtain ⟨gb, of5, rfl, hgb, c0, c1, hR1⟩ := (hR4.next hbl).at_ hlt hek
      obtain ⟨We, Ae, ke, xe⟩ := e
      obtain ⟨f1, f2⟩ := hE4'.out.at_ hek
      dsimp only at c0 c1 hR1 f1 f2
      subst f1
      have hmem := List.mem_of_getElem? f2
      have hN : Hid ((decide (v = 0) || ((nbrs m xs).take (k + 1)).any (fun z => farV (reach m z) ys == v - 1)) = (t || (farV (reach m xe) ys == v - 1))) := Lib.hid (by
        obtain ⟨hk2, hk3⟩ := List.getElem?_eq_some_iff.1 f2
        rw [List.take_succ_eq_append_getElem hk2, List.any_append, ht.out, hk3]; simp [Bool.or_assoc])
      obtain ⟨hD1, hD2⟩ := hst.out xe hmem
      have hDf := Lib.hid (hzf.out xe hmem)
      have hxe6 : xe.length ≤ 6 := by have h1 := nbrs_ok hk'.out hmem; have h2 : xs.length = x := hX4.1; omega
      generalize farV (reach m xe) ys = D at hN hD1 hD2 hDf
      have hwr : IntKind.i64.wrap (D - v) = D - v := IntWalk.i64_in _ (by omega)
      rw [Nat.mul_comm 2] at c0 c1
      have hki : (k : Int) < (es.length : Int) := by omega
      have hki0 : (0 : Int) ≤ (k : Int) := by omega
      have b0 := hkBr.cell 0
      have b1 := hkBr.cell 1
      clear hek f2 ht hmem
      go_wp2
      go_region_held3 (fun w' => w'.cell? ⟨gb, of5 + k * 2, none⟩ = some (.int .i64 (m : Int)) ∧ w'.cell? ⟨gb, of5 + k * 2 + 1, none⟩ = some (.slice Ae xe.length ke) ∧ w'.cell? ⟨oa + 1, 0, none⟩ = some (.int .i64 (m : Int)) ∧ w'.cell? ⟨oa + 1, 1, none⟩ = some (.slice Y y y'))
        (first
          | go_keep
          | exact ⟨(hb3.cell (p := ⟨gb, of5 + k * 2, none⟩) hgb).trans c0, (hb3.cell (p := ⟨gb, of5 + k * 2 + 1, none⟩) hgb).trans c1, (hkBr.drew.next hb3).cell 0, (hkBr.drew.next hb3).cell 1⟩)
        (first
          | (go_at_call 15; refine (impl_NeighborFar_c _ _ _ _ xe _ _ _ _ ys _ hR1.drew (by omega) hYr.drew (by omega)).mono ?_; rw [hDf.out]; rintro e w3 ⟨rfl, hb3⟩))
      have hb5 := lo_trans hbl (lo_trans (Below.drew (Below.refl wr.heap.size wr)) hb3)
      have hn1 : ¬ (D - v < -1) := by omega
      have hn2 : ¬ (1 < D - v) := by omega
      clear c0 c1 b0 b1 hb3
      cases t with
      | true =>
        go_wp2
        go_roundw
        case rel => exact ⟨k + 1, true, by omega, rfl, by go_num, hb5, Lib.hid (by rw [hN.out]; rfl)⟩
        case measure => simp [intOf]; omega
      | false =>
        by_cases hDv : D = v - 1
        · have hDv' : (D - v == -1) = true := beq_iff_eq.2 (by omega)
          have hN2 := Lib.hid (hN.out.trans (show (false || (D == v - 1)) = true by simp [hDv]))
          clear hDv
          go_wp2
          go_roundw
          case rel => exact ⟨k + 1, true, by omega, by simp, by go_num, hb5, Lib.hid hN2.out.symm⟩
          case measure => simp [intOf]; omega
        · have hDv' : (D - v == -1) = false := beq_eq_false_iff_ne.2 (by omega)
          have hN2 := Lib.hid (hN.out.trans (show (false || (D == v - 1)) = false by simp [hDv]))
          clear hDv
          go_wp2
          go_roundw
          case rel => exact ⟨k + 1, false, by omega, by simp, by go_num, hb5, Lib.hid hN2.out.symm⟩
          case measure => simp [intOf]; omega
    · have htt : t = true := by
        rw [ht.out, List.take_of_length_le (by rw [← hE4'.out.len]; omega)]
        by_cases hz : v = 0
        · simp [hz]
        · obtain ⟨z, h1, h2⟩ := hnr.out (by omega)
          rw [List.any_eq_true.2 ⟨z, h1, by simpa using h2⟩]; simp
      subst htt
      go_wp2
      go_ret
      exact ⟨rfl, lo_trans hB4 hbl⟩
end Go.Proofs.Ytjogfeichnkffaa
