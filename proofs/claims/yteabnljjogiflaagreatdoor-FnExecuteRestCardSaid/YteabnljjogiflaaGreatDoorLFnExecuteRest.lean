/- The walk of the law FnExecuteRest: it returns true for every slice of bytes, where the table of directions is as the program lays it. -/
import Derived.Test.YteabnljjogiflaaGreatDoorCp
namespace Go.Proofs.YteabnljjogiflaaGreatDoor
open Go.RowKit
set_option maxRecDepth 100000

set_option maxHeartbeats 4000000 in
theorem law_ExecuteRest (A : Option Addr) (n c : Nat) (w : World) (hr : RdB w A n) (hb : n ≤ maxLen ∧ n ≤ c) (hD : Dir w) :
    Calls Tryz.prog 5 #[.slice A n c] w fun e w' => e = .returned (.bool true) ∧ Below w.heap.size w w' := by
  obtain ⟨hl, hc⟩ := hb
  unfold maxLen at hl
  by_cases h : 1048576 < n
  · go_enter Tryz.func5, Tryz.ntmps5
    go_wp2
    go_ret
    exact ⟨rfl, Below.refl _ _⟩
  go_enter Tryz.func5, Tryz.ntmps5
  go_wp2_with fail
  refine (DrawExecute_c A n c _ hr (by omega) hc).mono ?_
  rintro e w1 ⟨t, ht, rfl, hb1⟩
  have hci := fun w hD => impl_Execute_c t w hD
  have hcs := fun w => spec_Execute_c t w
  have htsz := S_size t
  obtain ⟨T, hT⟩ : ∃ T, Hid (execT t = T) := ⟨_, Lib.hid rfl⟩
  rw [hT.out] at hci hcs
  go_wp2_with fail
  refine (hci _ (hD.next hb1)).mono ?_
  rintro e w2 ⟨rfl, hb2⟩
  go_wp2_with fail
  refine (hcs _).mono ?_
  rintro e w3 ⟨rfl, hb3⟩
  have hL3 := lo_trans (lo_trans hb1 hb2) hb3
  clear hci hcs hb1 hb2 hb3
  by_cases h4 : 400 < t.length
  · have g1 : decide ((400 : Int) < ((t.length : Nat) : Int)) = true := decide_eq_true (by omega)
    have hTe : T = tLong := by rw [← hT.out, execT, if_pos h4]
    subst hTe
    have q1 : ((S tLong).toList == [116, 111, 111, 32, 108, 111, 110, 103, 10]) = true := by rw [S_list]; rfl
    clear h4
    go_wp2
    go_ret
    exact ⟨rfl, hL3⟩
  · have g1 : decide ((400 : Int) < ((t.length : Nat) : Int)) = false := decide_eq_false (by omega)
    have hcomp := fun w => complete_c t w (by omega)
    have hsp := compl_spec t
    have hTc : execT (complT t) = T := by
      rw [← hT.out, exec_at (by omega), exec_at (by omega), hsp.2.1]
    have hce := fun w hD => impl_Execute_c (complT t) w hD
    rw [hTc] at hce
    generalize complT t = ct at hcomp hce
    clear hTc hsp h4
    go_wp2_with fail
    refine (hcomp _).mono ?_
    rintro e w4 ⟨rfl, rfl⟩
    go_wp2_with fail
    refine (hce _ (hD.next hL3)).mono ?_
    rintro e w5 ⟨rfl, hb5⟩
    clear hcomp hce
    go_wp2
    go_ret
    exact ⟨rfl, lo_trans hL3 hb5⟩
end Go.Proofs.YteabnljjogiflaaGreatDoor
