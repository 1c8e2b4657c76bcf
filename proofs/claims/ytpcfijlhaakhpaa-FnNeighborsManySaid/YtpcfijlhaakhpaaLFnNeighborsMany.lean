/- The law FnNeighborsMany walked. -/
import Derived.Test.YtpcfijlhaakhpaaMathW
import Derived.Test.YtpcfijlhaakhpaaPa
import Derived.Test.YtpcfijlhaakhpaaEqs
import Derived.Test.YtpcfijlhaakhpaaDi
import Derived.Test.YtpcfijlhaakhpaaKg
namespace Go.Proofs.Ytpcfijlhaakhpaa
open Go.RowKit
set_option maxRecDepth 100000

set_option maxHeartbeats 8000000 in
theorem law_NeighborsMany (A : Option Addr) (n c : Nat) (B : Option Addr) (q d : Nat) (w : World) (hr : RdB w A n) (hb : n ≤ maxLen ∧ n ≤ c) (_ : RdB w B q) (_ : q ≤ maxLen ∧ q ≤ d) :
    Calls Try.prog 4 #[.slice A n c, .slice B q d] w fun e w' => e = .returned (.bool true) ∧ Below w.heap.size w w' := by
  by_cases h1 : 1048576 < n
  · go_enter Try.func4, Try.ntmps4
    go_wp2
    go_ret
    exact ⟨rfl, by (repeat (first | exact Below.refl _ _ | assumption | refine lo_alloc ?_ _ | refine lo_set ?_ (by simp; try omega) _ | refine Below.drew ?_ | refine below_drewN ?_ _ | refine lo_trans ?_ (by assumption) | refine lo_wr ?_ (by assumption) (by omega)))⟩
  by_cases h2 : 1048576 < q
  · go_enter Try.func4, Try.ntmps4
    go_wp2
    go_ret
    exact ⟨rfl, by (repeat (first | exact Below.refl _ _ | assumption | refine lo_alloc ?_ _ | refine lo_set ?_ (by simp; try omega) _ | refine Below.drew ?_ | refine below_drewN ?_ _ | refine lo_trans ?_ (by assumption) | refine lo_wr ?_ (by assumption) (by omega)))⟩
  have hm : q ≤ 1048576 := by omega
  have g1 : decide ((1048576 : Int) < (n : Int)) = false := by simp; omega
  have g2 : decide ((1048576 : Int) < (q : Int)) = false := by simp; omega
  go_enter Try.func4, Try.ntmps4
  go_wp2_with fail
  refine (DrawImageNeighbors_c A n c _ hr (by omega) hb.2).mono ?_
  rintro e w1 ⟨W, X, x, x', xs, rfl, hx6, hX, hb1⟩
  have hs1 := hb1.size
  clear hb
  have hkA := Blk.new w1 25 #[.int .i64 W, .slice X x x']
  have hbA := lo_alloc (Below.refl w1.heap.size w1) (.cells #[.int .i64 W, .slice X x x'] 25)
  have hbAz : w1.heap.size < (w1.alloc (.cells #[.int .i64 W, .slice X x x'] 25)).heap.size := by simp
  go_wp2_with fail
  generalize w1.alloc (.cells #[.int .i64 W, .slice X x x'] 25) = wA at hkA hbA hbAz  ⊢
  have hnl := nbrsW_len W xs
  have hnr := Lib.hid (nbrsW_row W xs)
  have hnr2 : Hid (∀ y ∈ nbrsW W xs, y.length ≤ 1073741824) := Lib.hid (fun y hy => by have := hnr.out y hy; omega)
  have hXA := hX.next hbA
  refine (impl_ImageNeighbors_c _ _ _ _ xs _ hXA.rd (by omega)).mono ?_
  rintro e w2 ⟨R2, c2, es2, rfl, hb2, hI2, hE2⟩
  have hE2' := Lib.hid hE2
  have hl2 : es2.length < 1600 := by rw [hE2.len]; exact hnl
  have hkA2 := hkA.next hb2
  have hX2 := hXA.next hb2
  clear hE2
  have a0 := hkA2.cell 0
  have a1 := hkA2.cell 1
  go_wp2_with fail
  refine (spec_ImageNeighbors_c _ _ _ _ xs _ hX2.rd (by omega)).mono ?_
  rintro e w3 ⟨R3, c3, es3, rfl, hb3, hI3, hE3⟩
  have hE3' := Lib.hid hE3
  have hl3 : es3.length < 1600 := by rw [hE3.len]; exact hnl
  have hI2' := hI2.next hb3
  have hkA3 := hkA2.next hb3
  have hX3 := hX2.next hb3
  have hB3 : Below w.heap.size w w3 := lo_trans (lo_trans (lo_trans hb1 hbA) hb2) hb3
  clear hE3 a0 a1 hkA hkA2 hX hXA hX2 hI2 hb1 hbA hb2 hb3
  have hR2 := hI2'.rdI
  have hR3 := hI3.rdI
  clear hI2' hI3
  go_wp2_with fail
  refine (sameImages_t _ _ _ _ _ _ W es2 es3 _ _ hR2 hR3 hE2'.out hE3'.out (by omega) hnr2.out).mono ?_
  rintro e w4 ⟨rfl, hb4⟩
  have hB4 := lo_trans hB3 hb4
  have hR2 := hR2.next hb4
  have hR3 := hR3.next hb4
  have hkA4 := hkA3.next hb4
  have hX4 := hX3.next hb4
  clear hB3 hb4 hkA3 hX3
  by_cases h0 : es2.length = 0
  · have h0' : ((es2.length : Int) == 0) = true := by simp; exact List.eq_nil_of_length_eq_zero h0
    clear h0
    go_wp2_with fail
    refine (sameImages_t _ _ _ _ _ _ W es2 es3 _ _ hR2 hR3 hE2'.out hE3'.out (by omega) hnr2.out).mono ?_
    rintro e w5 ⟨rfl, hb5⟩
    go_wp2
    go_ret
    exact ⟨rfl, lo_trans hB4 hb5⟩
  · have h0' : ((es2.length : Int) == 0) = false := by simp; intro e; exact h0 (by rw [e]; rfl)
    have hok : okB W xs = true := by
      cases hk : okB W xs with
      | true => rfl
      | false =>
        exfalso
        have h1 := hE2'.out.len
        simp [nbrsW, hk] at h1
        exact h0 (by rw [h1]; rfl)
    obtain ⟨m, rfl⟩ := Int.eq_ofNat_of_zero_le (show 0 ≤ W by have := okB_bd hok; omega)
    have hnW : nbrsW (m : Int) xs = nbrs m xs := by simp [nbrsW, hok]
    rw [hnW] at hE2'
    have hok' := Lib.hid hok
    have hxl : xs.length = x := hX4.1
    have hbd := okB_bd hok
    have htl := Lib.hid (turn_is hok)
    have hto := Lib.hid (turnL_ok hok)
    have hnt := Lib.hid (nbrs_turn hok)
    rw [hxl] at hbd htl hto hnt
    have hxl' := Lib.hid hxl
    clear hok hnW hE3' hnl hnr hnr2 hl3 hxl
    obtain ⟨oa, hoa⟩ : ∃ oa, oa = w1.heap.size := ⟨_, rfl⟩
    rw [← hoa] at hkA4 ⊢
    have hoa' := Lib.hid hoa; clear hoa
    have a0 := hkA4.cell 0
    have a1 := hkA4.cell 1
    go_wp2_with fail
    refine (ImageTurn_c _ _ _ _ xs _ hX4.rd (by omega)).mono ?_
    rw [hok'.out, htl.out.1, htl.out.2]
    rintro e w5 ⟨R5, r5, k5, rfl, hb5, ho5⟩
    have hr5 : r5 ≤ 6 := by rw [← ho5.1, turnL_len]; omega
    have hkA5 := (hkA4.next hb5).alloc (.cells #[.int .i64 (x : Int), .slice R5 r5 k5] 25)
    have hX5 := (hX4.next hb5).alloc (.cells #[.int .i64 (x : Int), .slice R5 r5 k5] 25)
    have hB5 := lo_alloc (lo_trans hB4 hb5) (.cells #[.int .i64 (x : Int), .slice R5 r5 k5] 25)
    have ho5' := ho5.alloc (.cells #[.int .i64 (x : Int), .slice R5 r5 k5] 25)
    have hkT := Blk.new w5 25 #[.int .i64 (x : Int), .slice R5 r5 k5]
    have hR25 := (hR2.next hb5).next (lo_alloc (Below.refl _ _) (.cells #[.int .i64 (x : Int), .slice R5 r5 k5] 25))
    have hidx : q % es2.length < es2.length := Nat.mod_lt _ (by omega)
    have e1 : (q : Int).tmod (es2.length : Int) = ((q % es2.length : Nat) : Int) := by rw [Int.tmod_eq_emod_of_nonneg (by omega)]; simp
    have e2 : (q : Int) % (es2.length : Int) = ((q % es2.length : Nat) : Int) := by simp
    have hne : ¬ es2.length = 0 := h0
    obtain ⟨b4, hb4e⟩ : ∃ e, es2[q % es2.length]? = some e := ⟨es2[q % es2.length], List.getElem?_eq_getElem hidx⟩
    obtain ⟨gb, off, rfl, hgb, c0, c1, hRb⟩ := hR25.at_ hidx hb4e
    obtain ⟨f1, f2⟩ := hE2'.out.at_ hb4e
    obtain ⟨Wb, Ab, kb, xb⟩ := b4
    dsimp only at c0 c1 hRb f1 f2
    subst f1
    have hmem : xb ∈ nbrs m xs := List.mem_of_getElem? f2
    have hmem' := Lib.hid hmem
    have hxbl := (nbrs_ok hok'.out hmem).2
    rw [hxl'.out] at hxbl
    rw [Nat.mul_comm 2] at c0 c1
    rw [hxbl] at c1 hRb
    generalize q % es2.length = i0 at hidx e1 e2 c0 c1
    have hi1 : (i0 : Int) < (es2.length : Int) := by omega
    have hi0 : (0 : Int) ≤ (i0 : Int) := by omega
    have hwr : IntKind.i64.wrap ((i0 : Nat) : Int) = (i0 : Int) := IntWalk.i64_in _ (by omega)
    clear hb4e f2 hmem h0 hxbl a0 a1 hkA4 hX4 hR2 hR25 hB4 hb5 ho5
    have a0 := hkA5.cell 0
    have a1 := hkA5.cell 1
    go_wp2
    generalize hwT : w5.alloc (.cells #[.int .i64 (x : Int), .slice R5 r5 k5] 25) = wT at hkA5 hX5 hB5 ho5' hkT a0 a1 c0 c1 hRb hgb ⊢
    have hwT' := Lib.hid hwT
    clear hwT
    have hXd := hX5.rd.drew
    have hRd := hRb.drew
    go_region_held3 (fun w' => w'.cell? ⟨gb, off + i0 * 2, none⟩ = some (.int .i64 (m : Int)) ∧ w'.cell? ⟨gb, off + i0 * 2 + 1, none⟩ = some (.slice Ab x kb) ∧ w'.cell? ⟨oa, 0, none⟩ = some (.int .i64 (m : Int)) ∧ w'.cell? ⟨oa, 1, none⟩ = some (.slice X x x'))
      (first
        | exact ⟨(hb7.cell (p := ⟨gb, off + i0 * 2, none⟩) hgb).trans c0, (hb7.cell (p := ⟨gb, off + i0 * 2 + 1, none⟩) hgb).trans c1, (hkA5.drew.next hb7).cell 0, (hkA5.drew.next hb7).cell 1⟩
        | exact ⟨c0, c1, a0, a1⟩)
      (first
        | (go_at_call 18
           refine (SwitchPath_c m x _ _ _ _ xs xb _ hXd hRd hok'.out (nbrs_ok hok'.out hmem'.out).1 (nbr_same hok'.out hmem'.out)).mono ?_
           rintro e w7 ⟨hb7, R7, c7, k7, rfl, hp7, he7⟩))
    have hk7 : k7 = 1 := path_one hok'.out hmem'.out hp7 he7
    subst hk7
    have hkT7 := hkT.drew.next hb7
    have hT7 := ho5'.drew.next hb7
    have hB7 := lo_trans (Below.drew hB5) hb7
    have t0 := hkT7.cell 0
    have t1 := hkT7.cell 1
    clear hp7 he7
    go_wp2_with fail
    refine (impl_ImageNeighbors_c _ _ _ _ _ _ hT7.rd (by omega)).mono ?_
    rintro e w8 ⟨R8, c8, es8, rfl, hb8, hI8, hE8⟩
    have hl8 : es8.length = es2.length := by rw [hE8.len, hE2'.out.len, ← hnt.out]; simp [nbrsW, hto.out]
    clear hE8 hI8
    rw [hl8]
    clear hl8
    go_wp2
    go_ret
    exact ⟨rfl, lo_trans hB7 hb8⟩
end Go.Proofs.Ytpcfijlhaakhpaa
