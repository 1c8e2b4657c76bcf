/- The law FnNeighbors walked. -/
import Derived.Test.YtpcfijlhaakhpaaMathW
import Derived.Test.YtpcfijlhaakhpaaEqs
import Derived.Test.YtpcfijlhaakhpaaDi
import Derived.Test.YtpcfijlhaakhpaaKg
namespace Go.Proofs.Ytpcfijlhaakhpaa
open Go.RowKit
set_option maxRecDepth 100000

set_option maxHeartbeats 8000000 in
theorem law_Neighbors (A : Option Addr) (n c : Nat) (w : World) (hr : RdB w A n) (hb : n ≤ maxLen ∧ n ≤ c) :
    Calls Try.prog 3 #[.slice A n c] w fun e w' => e = .returned (.bool true) ∧ Below w.heap.size w w' := by
  by_cases h1 : 1048576 < n
  · go_enter Try.func3, Try.ntmps3
    go_wp2
    go_ret
    exact ⟨rfl, by (repeat (first | exact Below.refl _ _ | assumption | refine lo_alloc ?_ _ | refine lo_set ?_ (by simp; try omega) _ | refine Below.drew ?_ | refine below_drewN ?_ _ | refine lo_trans ?_ (by assumption) | refine lo_wr ?_ (by assumption) (by omega)))⟩
  have g1 : decide ((1048576 : Int) < (n : Int)) = false := by simp; omega
  go_enter Try.func3, Try.ntmps3
  go_wp2_with fail
  refine (DrawImageNeighbors_c A n c _ hr (by omega) hb.2).mono ?_
  rintro e w1 ⟨W, X, x, x', xs, rfl, hx6, hX, hb1⟩
  have hs1 := hb1.size
  clear hb
  have hkA := Blk.new w1 25 #[.int .i64 W, .slice X x x']
  have hbA := lo_alloc (Below.refl w1.heap.size w1) (.cells #[.int .i64 W, .slice X x x'] 25)
  have hbAz : w1.heap.size < (w1.alloc (.cells #[.int .i64 W, .slice X x x'] 25)).heap.size := by simp
  go_wp2_with fail
  generalize w1.alloc (.cells #[.int .i64 W, .slice X x x'] 25) = wA at hkA hbA hbAz  ⊢
  have hnl := nbrsW_len W xs
  have hnr := Lib.hid (nbrsW_row W xs)
  have hnr2 : Hid (∀ y ∈ nbrsW W xs, y.length ≤ 1073741824) := Lib.hid (fun y hy => by have := hnr.out y hy; omega)
  have hXA := hX.next hbA
  refine (impl_ImageNeighbors_c _ _ _ _ xs _ hXA.rd (by omega)).mono ?_
  rintro e w2 ⟨R2, c2, es2, rfl, hb2, hI2, hE2⟩
  have hE2' := Lib.hid hE2
  have hl2 : es2.length < 1600 := by rw [hE2.len]; exact hnl
  have hkA2 := hkA.next hb2
  have hX2 := hXA.next hb2
  clear hE2
  have a0 := hkA2.cell 0
  have a1 := hkA2.cell 1
  go_wp2_with fail
  refine (spec_ImageNeighbors_c _ _ _ _ xs _ hX2.rd (by omega)).mono ?_
  rintro e w3 ⟨R3, c3, es3, rfl, hb3, hI3, hE3⟩
  have hE3' := Lib.hid hE3
  have hl3 : es3.length < 1600 := by rw [hE3.len]; exact hnl
  have hI2' := hI2.next hb3
  have hkA3 := hkA2.next hb3
  have hX3 := hX2.next hb3
  have hB3 : Below w.heap.size w w3 := lo_trans (lo_trans (lo_trans hb1 hbA) hb2) hb3
  clear hE3 a0 a1 hkA hkA2 hX hXA hX2 hI2 hb1 hbA hb2 hb3
  have hR2 := hI2'.rdI
  have hR3 := hI3.rdI
  clear hI2' hI3
  go_wp2_with fail
  refine (sameImages_t _ _ _ _ _ _ W es2 es3 _ _ hR2 hR3 hE2'.out hE3'.out (by omega) hnr2.out).mono ?_
  rintro e w4 ⟨rfl, hb4⟩
  have hB4 := lo_trans hB3 hb4
  have hR2 := hR2.next hb4
  have hR3 := hR3.next hb4
  have hkA4 := hkA3.next hb4
  have hX4 := hX3.next hb4
  clear hB3 hb4 hkA3 hX3
  by_cases h0 : es2.length = 0
  · have h0' : ((es2.length : Int) == 0) = true := by simp; exact List.eq_nil_of_length_eq_zero h0
    clear h0
    go_wp2_with fail
    refine (sameImages_t _ _ _ _ _ _ W es2 es3 _ _ hR2 hR3 hE2'.out hE3'.out (by omega) hnr2.out).mono ?_
    rintro e w5 ⟨rfl, hb5⟩
    go_wp2
    go_ret
    exact ⟨rfl, lo_trans hB4 hb5⟩
  · have h0' : ((es2.length : Int) == 0) = false := by simp; intro e; exact h0 (by rw [e]; rfl)
    have hok : okB W xs = true := by
      cases hk : okB W xs with
      | true => rfl
      | false =>
        exfalso
        have h1 := hE2'.out.len
        simp [nbrsW, hk] at h1
        exact h0 (by rw [h1]; rfl)
    obtain ⟨m, rfl⟩ := Int.eq_ofNat_of_zero_le (show 0 ≤ W by have := okB_bd hok; omega)
    have hnW : nbrsW (m : Int) xs = nbrs m xs := by simp [nbrsW, hok]
    rw [hnW] at hE2'
    have hok' := Lib.hid hok
    have hnd := Lib.hid (nbrs_nodup m xs)
    have hfin := Lib.hid (show (es2.length : Int) = swManyW (m : Int) xs by rw [swMany_nbrs hok, hE2'.out.len])
    clear hok hnW hE3' hnl hnr hnr2 hl3 h0
    obtain ⟨oa, hoa⟩ : ∃ oa, oa = w1.heap.size := ⟨_, rfl⟩
    rw [← hoa] at hkA4
    go_wp2_with fail
    rw [← hoa]
    have hoa' := Lib.hid hoa; clear hoa
    have hzo : oa < w4.heap.size := hkA4.lt
    go_loopw [6] (fun i wr => ∃ k : Nat, k ≤ es2.length ∧ i = .int .i64 k ∧ Below w4.heap.size w4 wr) (fun i _ => es2.length - (intOf i).toNat)
    case atStart => exact ⟨0, Nat.zero_le _, rfl, Below.refl _ _⟩
    case round =>
      obtain ⟨k, hk, rfl, hbl⟩ := hrel
      have hkAr := hkA4.next hbl
      have hXr := hX4.next hbl
      by_cases hlt : k < es2.length
      · obtain ⟨e, hek⟩ : ∃ e, es2[k]? = some e := ⟨es2[k], List.getElem?_eq_getElem hlt⟩
        obtain ⟨gb, of5, rfl, hgb, c0, c1, hR1⟩ := (hR2.next hbl).at_ hlt hek
        obtain ⟨We, Ae, ke, xe⟩ := e
        obtain ⟨f1, f2⟩ := hE2'.out.at_ hek
        dsimp only at c0 c1 hR1 f1 f2
        subst f1
        have hmem := List.mem_of_getElem? f2
        have f2' := Lib.hid f2
        have hsm := Lib.hid (nbr_same hok'.out hmem)
        have hdi := Lib.hid (nbr_dist hok'.out hmem)
        have hxe6 : xe.length ≤ 6 := by have h1 := nbrs_ok hok'.out hmem; have h2 := hXr.1; omega
        rw [Nat.mul_comm 2] at c0 c1
        have hki : (k : Int) < (es2.length : Int) := by omega
        have hki0 : (0 : Int) ≤ (k : Int) := by omega
        have b0 := hkAr.cell 0
        have b1 := hkAr.cell 1
        have hR1d := hR1.drew
        have hXd := hXr.rd.drew
        clear hek f2 hmem
        go_wp2
        go_region_held3 (fun w' => Below wr.drew.heap.size wr.drew w' ∧ w'.cell? ⟨gb, of5 + k * 2, none⟩ = some (.int .i64 (m : Int)) ∧ w'.cell? ⟨gb, of5 + k * 2 + 1, none⟩ = some (.slice Ae xe.length ke) ∧ w'.cell? ⟨oa, 0, none⟩ = some (.int .i64 (m : Int)) ∧ w'.cell? ⟨oa, 1, none⟩ = some (.slice X x x'))
          (first
            | exact ⟨hLr, (hLr.cell (p := ⟨gb, of5 + k * 2, none⟩) hgb).trans c0, (hLr.cell (p := ⟨gb, of5 + k * 2 + 1, none⟩) hgb).trans c1, (hkAr.drew.next hLr).cell 0, (hkAr.drew.next hLr).cell 1⟩
            | exact ⟨Below.refl _ _, c0, c1, b0, b1⟩)
          (first
            | (go_at_call 13
               refine (SumsSame_c _ _ _ _ xs _ _ _ _ xe _ (hXd.next (And.left ‹Below _ _ _ ∧ _›)) (by omega) (hR1d.next (And.left ‹Below _ _ _ ∧ _›)) (by omega)).mono ?_
               rw [hsm.out]
               rintro e w5 ⟨rfl, hb5⟩
               have hLr := lo_trans (And.left ‹Below wr.drew.heap.size _ _ ∧ _›) hb5)
            | (go_at_call 14
               refine (ImageDistance_c _ _ _ _ xs _ _ _ _ xe _ (hXd.next hLr) (by omega) (hR1d.next hLr) (by omega)).mono ?_
               rw [hdi.out]
               rintro e w6 ⟨rfl, hb6⟩
               have hLr := lo_trans hLr hb6))
        have hb6 := lo_trans hbl (lo_trans (Below.drew (Below.refl wr.heap.size wr)) hLr)
        have hgb6 : gb < wr.heap.size := hgb
        clear c0 c1 b0 b1 hsm hdi hR1d hXd hR1
        clear hLr
        generalize hw8 : (_ : World) = w8 at hb6 ⊢
        clear hw8
        go_wp2
        go_loopw [7] (fun j wr => ∃ q : Nat, q ≤ k ∧ j = .int .i64 q ∧ Below w4.heap.size w4 wr) (fun j _ => k - (intOf j).toNat)
        case atStart => exact ⟨0, Nat.zero_le _, rfl, hb6⟩
        case round =>
          clear hbl hb6
          obtain ⟨q, hq, rfl, hbl⟩ := hrel
          by_cases hlt2 : q < k
          · obtain ⟨e, heq⟩ : ∃ e, es2[q]? = some e := ⟨es2[q]'(by omega), List.getElem?_eq_getElem (by omega)⟩
            obtain ⟨e', hek⟩ : ∃ e, es2[k]? = some e := ⟨es2[k], List.getElem?_eq_getElem hlt⟩
            obtain ⟨g1, o1, e1, hg1, c0, c1, hRq⟩ := (hR2.next hbl).at_ (show q < es2.length by omega) heq
            obtain ⟨g2, o2, e2, hg2, d0, d1, hRk⟩ := (hR2.next hbl).at_ hlt hek
            cases e1
            cases e2
            obtain ⟨We, Aq, kq, xq⟩ := e
            obtain ⟨Wk, Ak, kk, xk⟩ := e'
            obtain ⟨f1, f2⟩ := hE2'.out.at_ heq
            obtain ⟨f3, f4⟩ := hE2'.out.at_ hek
            dsimp only at c0 c1 d0 d1 hRq hRk f1 f2 f3 f4
            subst f1
            subst f3
            have hne : ¬ xk = xq := nodup_get hnd.out f4 f2 hlt2
            have hxk6 : xk.length ≤ 6 := by have h1 := nbrs_ok hok'.out (List.mem_of_getElem? f4); have h2 := (hX4.next hbl).1; omega
            have hne' := Lib.hid hne
            rw [Nat.mul_comm 2] at c0 c1 d0 d1
            have hqi : (q : Int) < (es2.length : Int) := by omega
            have hqi0 : (0 : Int) ≤ (q : Int) := by omega
            have hki1 : (k : Int) < (es2.length : Int) := by omega
            have hki2 : (0 : Int) ≤ (k : Int) := by omega
            have hRqd := hRq.drew
            have hRkd := hRk.drew
            clear heq hek f2 f4 hne
            go_wp2
            go_region_held3 (fun w' => w'.cell? ⟨gb, of5 + q * 2, none⟩ = some (.int .i64 (m : Int)) ∧ w'.cell? ⟨gb, of5 + q * 2 + 1, none⟩ = some (.slice Aq xq.length kq) ∧ w'.cell? ⟨gb, of5 + k * 2, none⟩ = some (.int .i64 (m : Int)) ∧ w'.cell? ⟨gb, of5 + k * 2 + 1, none⟩ = some (.slice Ak xk.length kk))
              (first
                | exact ⟨(hb7.cell (p := ⟨gb, of5 + q * 2, none⟩) hg1).trans c0, (hb7.cell (p := ⟨gb, of5 + q * 2 + 1, none⟩) hg1).trans c1, (hb7.cell (p := ⟨gb, of5 + k * 2, none⟩) hg1).trans d0, (hb7.cell (p := ⟨gb, of5 + k * 2 + 1, none⟩) hg1).trans d1⟩
                | exact ⟨c0, c1, d0, d1⟩)
              (first
                | (go_at_call 15
                   refine (lsameImage_c m m Ak Aq xk.length xq.length kk kq xk xq _ hRkd hRqd (by omega)).mono ?_
                   rintro e w7 ⟨rfl, hb7⟩))
            have hb8 := lo_trans hbl (lo_trans (Below.drew (Below.refl wr.heap.size wr)) hb7)
            have hne := hne'.out
            go_wp2
            go_roundw
            case rel => exact ⟨q + 1, by omega, by go_num, hb8⟩
            case measure => simp [intOf]; omega
          · go_wp2
            go_roundw
            case rel => exact ⟨k + 1, by omega, by go_num, hbl⟩
            case measure => simp [intOf]; omega
      · have a0 := hkAr.cell 0
        have a1 := hkAr.cell 1
        go_wp2_with fail
        refine (SwitchMany_c _ _ _ _ xs _ hXr.rd (by omega)).mono ?_
        rw [← hfin.out]
        rintro e w5 ⟨rfl, hb5⟩
        go_wp2
        go_ret
        exact ⟨rfl, lo_trans hB4 (lo_trans hbl hb5)⟩
end Go.Proofs.Ytpcfijlhaakhpaa
