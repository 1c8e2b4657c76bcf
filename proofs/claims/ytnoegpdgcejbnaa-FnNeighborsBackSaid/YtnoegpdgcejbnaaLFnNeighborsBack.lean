/- The law FnNeighborsBack walked. -/
import Derived.Test.YtnoegpdgcejbnaaLs
import Derived.Test.YtnoegpdgcejbnaaSpd
import Derived.Test.YtnoegpdgcejbnaaNl
import Derived.Test.YtnoegpdgcejbnaaDi
namespace Go.Proofs.Ytnoegpdgcejbnaa
open Go.RowKit
set_option maxRecDepth 100000

set_option maxHeartbeats 8000000 in
theorem law_NeighborsBack (A : Option Addr) (n c : Nat) (B : Option Addr) (m d : Nat) (w : World) (hr : RdB w A n) (hb : n ≤ maxLen ∧ n ≤ c) (_ : RdB w B m) (_ : m ≤ maxLen ∧ m ≤ d) :
    Calls Try.prog 4 #[.slice A n c, .slice B m d] w fun e w' => e = .returned (.bool true) ∧ Below w.heap.size w w' := by
  by_cases h1 : 1048576 < n
  · go_enter Try.func4, Try.ntmps4
    go_wp2
    go_ret
    exact ⟨rfl, by (repeat (first | exact Below.refl _ _ | assumption | refine lo_alloc ?_ _ | refine lo_set ?_ (by simp; try omega) _ | refine Below.drew ?_ | refine below_drewN ?_ _ | refine lo_trans ?_ (by assumption) | refine lo_wr ?_ (by assumption) (by omega)))⟩
  by_cases h2 : 1048576 < m
  · go_enter Try.func4, Try.ntmps4
    go_wp2
    go_ret
    exact ⟨rfl, by (repeat (first | exact Below.refl _ _ | assumption | refine lo_alloc ?_ _ | refine lo_set ?_ (by simp; try omega) _ | refine Below.drew ?_ | refine below_drewN ?_ _ | refine lo_trans ?_ (by assumption) | refine lo_wr ?_ (by assumption) (by omega)))⟩
  have hm : m ≤ 1048576 := by omega
  have g1 : decide ((1048576 : Int) < (n : Int)) = false := by simp; omega
  have g2 : decide ((1048576 : Int) < (m : Int)) = false := by simp; omega
  go_enter Try.func4, Try.ntmps4
  go_wp2_with fail
  refine (DrawImageNeighbors_c A n c _ hr (by omega) hb.2).mono ?_
  rintro e w1 ⟨W, X, x, x', xs, rfl, hx6, hX, hb1⟩
  have hs1 := hb1.size
  clear hb
  have hkA := Blk.new w1 28 #[.int .i64 W, .slice X x x']
  have hbA := lo_alloc (Below.refl w1.heap.size w1) (.cells #[.int .i64 W, .slice X x x'] 28)
  have hbAz : w1.heap.size < (w1.alloc (.cells #[.int .i64 W, .slice X x x'] 28)).heap.size := by simp
  go_wp2_with fail
  generalize w1.alloc (.cells #[.int .i64 W, .slice X x x'] 28) = wA at hkA hbA hbAz  ⊢
  have hnl := nbrsW_len W xs
  have hnr := Lib.hid (nbrsW_row W xs)
  have hnr2 : Hid (∀ y ∈ nbrsW W xs, y.length ≤ 1073741824) := Lib.hid (fun y hy => by have := hnr.out y hy; omega)
  have hXA := hX.next hbA
  refine (impl_ImageNeighbors_c _ _ _ _ xs _ hXA.rd (by omega)).mono ?_
  rintro e w2 ⟨R2, c2, es2, rfl, hb2, hI2, hE2⟩
  have hE2' := Lib.hid hE2
  have hl2 : es2.length < 1600 := by rw [hE2.len]; exact hnl
  have hkA2 := hkA.next hb2
  have hX2 := hXA.next hb2
  clear hE2
  have a0 := hkA2.cell 0
  have a1 := hkA2.cell 1
  go_wp2_with fail
  refine (spec_ImageNeighbors_c _ _ _ _ xs _ hX2.rd (by omega)).mono ?_
  rintro e w3 ⟨R3, c3, es3, rfl, hb3, hI3, hE3⟩
  have hE3' := Lib.hid hE3
  have hl3 : es3.length < 1600 := by rw [hE3.len]; exact hnl
  have hI2' := hI2.next hb3
  have hkA3 := hkA2.next hb3
  have hX3 := hX2.next hb3
  have hB3 : Below w.heap.size w w3 := lo_trans (lo_trans (lo_trans hb1 hbA) hb2) hb3
  clear hE3 a0 a1 hkA hkA2 hX hXA hX2 hI2 hb1 hbA hb2 hb3
  have hR2 := hI2'.rdI
  have hR3 := hI3.rdI
  clear hI2' hI3
  go_wp2_with fail
  refine (sameImages_t _ _ _ _ _ _ W es2 es3 _ _ hR2 hR3 hE2'.out hE3'.out (by omega) hnr2.out).mono ?_
  rintro e w4 ⟨rfl, hb4⟩
  have hB4 := lo_trans hB3 hb4
  have hR2 := hR2.next hb4
  have hR3 := hR3.next hb4
  have hkA4 := hkA3.next hb4
  have hX4 := hX3.next hb4
  clear hB3 hb4 hkA3 hX3
  by_cases h0 : es2.length = 0
  · have h0' : ((es2.length : Int) == 0) = true := by simp; exact List.eq_nil_of_length_eq_zero h0
    clear h0
    go_wp2_with fail
    refine (sameImages_t _ _ _ _ _ _ W es2 es3 _ _ hR2 hR3 hE2'.out hE3'.out (by omega) hnr2.out).mono ?_
    rintro e w5 ⟨rfl, hb5⟩
    go_wp2
    go_ret
    exact ⟨rfl, lo_trans hB4 hb5⟩
  · have h0' : ((es2.length : Int) == 0) = false := by simp; intro e; exact h0 (by rw [e]; rfl)
    have hidx : m % es2.length < es2.length := Nat.mod_lt _ (by omega)
    have e1 : (m : Int).tmod (es2.length : Int) = ((m % es2.length : Nat) : Int) := by rw [Int.tmod_eq_emod_of_nonneg (by omega)]; simp
    have e2 : (m : Int) % (es2.length : Int) = ((m % es2.length : Nat) : Int) := by simp
    have hne : ¬ es2.length = 0 := h0
    obtain ⟨b4, hb4e⟩ : ∃ e, es2[m % es2.length]? = some e := ⟨es2[m % es2.length], List.getElem?_eq_getElem hidx⟩
    obtain ⟨gb, off, rfl, hgb, c0, c1, hRb⟩ := hR2.at_ hidx hb4e
    obtain ⟨f1, f2⟩ := hE2'.out.at_ hb4e
    obtain ⟨Wb, Ab, kb, xb⟩ := b4
    dsimp only at c0 c1 hRb f1 f2
    subst f1
    have hmem : xb ∈ nbrsW Wb xs := List.mem_of_getElem? f2
    have hxb6 := hnr.out _ hmem
    have hback := Lib.hid (nbrsW_back hmem)
    rw [Nat.mul_comm 2] at c0 c1
    generalize m % es2.length = i0 at hidx e1 e2 c0 c1
    have hi1 : (i0 : Int) < (es2.length : Int) := by omega
    clear hb4e f2 hmem h0
    have hkB := Blk.new w4 28 #[.int .i64 Wb, .slice Ab xb.length kb]
    have hbB := lo_alloc (Below.refl w4.heap.size w4) (.cells #[.int .i64 Wb, .slice Ab xb.length kb] 28)
    go_wp2_with fail
    refine (impl_ImageNeighbors_c _ _ _ _ xb _ (hRb.next hbB) (by omega)).mono ?_
    rintro e w5 ⟨R5, c5, es5, rfl, hb5, hI5, hE5⟩
    have hE5' := Lib.hid hE5
    have hl5 : es5.length < 1600 := by rw [hE5.len]; exact nbrsW_len _ _
    have hR5 := hI5.rdI
    have hkA5 := (hkA4.next hbB).next hb5
    have hX5 := (hX4.next hbB).next hb5
    have hB5 := lo_trans (lo_trans hB4 hbB) hb5
    clear hE5 hI5 hb5 hbB hkB hkA4 hX4 hB4 hR2 hR3 c0 c1 e1 e2 hRb hgb
    go_wp2
    go_loopw [10] (fun i wr => ∃ k : Nat, k ≤ es5.length ∧ i = .int .i64 k ∧ Below w5.heap.size w5 wr ∧ Hid (∀ j e, j < k → es5[j]? = some e → e.xs ≠ xs)) (fun i _ => es5.length - (intOf i).toNat)
    case atStart => exact ⟨0, Nat.zero_le _, rfl, Below.refl _ _, Lib.hid (fun j e h => absurd h (by omega))⟩
    case round =>
      obtain ⟨k, hk, rfl, hbl, hall⟩ := hrel
      by_cases hlt : k < es5.length
      · obtain ⟨e, hek⟩ : ∃ e, es5[k]? = some e := ⟨es5[k], List.getElem?_eq_getElem hlt⟩
        obtain ⟨b, of5, rfl, hb, c0, c1, hR1⟩ := (hR5.next hbl).at_ hlt hek
        have hN : Hid (e.xs ≠ xs → ∀ j e, j < k + 1 → es5[j]? = some e → e.xs ≠ xs) := Lib.hid (fun hne j e' hj he' => by
          rcases Nat.lt_or_ge j k with h | h
          · exact hall.out j e' h he'
          · obtain rfl : j = k := by omega
            rw [hek] at he'
            cases he'; exact hne)
        obtain ⟨We, Ae, ke, xe⟩ := e
        obtain ⟨f1, f2⟩ := hE5'.out.at_ hek
        dsimp only at c0 c1 hR1 f1 f2 hN
        subst f1
        have hxe6 : xe.length ≤ 6 := nbrsW_row _ _ _ (List.mem_of_getElem? f2)
        rw [Nat.mul_comm 2] at c0 c1
        have hki : (k : Int) < (es5.length : Int) := by omega
        have hki0 : (0 : Int) ≤ (k : Int) := by omega
        have hkAr := hkA5.next hbl
        have hXr := hX5.next hbl
        have a0 := hkAr.cell 0
        have a1 := hkAr.cell 1
        clear hek f2 hall
        go_wp2
        go_region_held3 (fun w' => w'.cell? ⟨b, of5 + k * 2, none⟩ = some (.int .i64 We) ∧ w'.cell? ⟨b, of5 + k * 2 + 1, none⟩ = some (.slice Ae xe.length ke) ∧ w'.cell? ⟨w1.heap.size, 0, none⟩ = some (.int .i64 We) ∧ w'.cell? ⟨w1.heap.size, 1, none⟩ = some (.slice X x x'))
          (first
            | go_keep
            | exact ⟨(hb3.cell (p := ⟨b, of5 + k * 2, none⟩) hb).trans c0, (hb3.cell (p := ⟨b, of5 + k * 2 + 1, none⟩) hb).trans c1, (hkAr.drew.next hb3).cell 0, (hkAr.drew.next hb3).cell 1⟩)
          (first
            | (go_at_call 16; refine (lsameImage_c We We Ae X xe.length x ke x' xe xs _ hR1.drew hXr.rd.drew (by omega)).mono ?_; rintro e w3 ⟨rfl, hb3⟩))
        have hb4 := lo_trans hbl (lo_trans (Below.drew (Below.refl wr.heap.size wr)) hb3)
        have hd : decide (We = We) = true := decide_eq_true rfl
        by_cases hxe : xe = xs
        · subst hxe
          have hd2 : decide (xe = xe) = true := decide_eq_true rfl
          go_wp2
          go_ret
          exact ⟨rfl, lo_trans hB5 hb4⟩
        · have hd2 : decide (xe = xs) = false := decide_eq_false hxe
          have hN2 := Lib.hid (hN.out hxe)
          go_wp2
          go_roundw
          case rel => exact ⟨k + 1, by omega, by go_num, hb4, hN2⟩
          case measure => simp [intOf]; omega
      · exfalso
        have hmem := hback.out
        rw [← hE5'.out.1] at hmem
        obtain ⟨e, he, hx⟩ := List.mem_map.1 hmem
        obtain ⟨j, hj, rfl⟩ := List.getElem_of_mem he
        exact hall.out j _ (by omega) (List.getElem?_eq_getElem hj) hx
end Go.Proofs.Ytnoegpdgcejbnaa
