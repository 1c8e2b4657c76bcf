/- The walk of the law FnExecuteNone: it returns true for every slice of bytes, where the table of directions is as the program lays it. -/
import Derived.Test.YteabnljjogiflaaGreatDoorCp
namespace Go.Proofs.YteabnljjogiflaaGreatDoor
open Go.RowKit
set_option maxRecDepth 100000

theorem execT_ne (t : Bs) : execT t ≠ [] := by
  by_cases h : 400 < t.length
  · rw [execT, if_pos h]; decide
  · rw [exec_at (by omega)]
    intro e
    have := congrArg List.length e
    simp [cellsT, tCells] at this
set_option maxHeartbeats 1000000 in
theorem law_ExecuteNone (A : Option Addr) (n c : Nat) (w : World) (hr : RdB w A n) (hb : n ≤ maxLen ∧ n ≤ c) (hD : Dir w) :
    Calls Tryz.prog 4 #[.slice A n c] w fun e w' => e = .returned (.bool true) ∧ Below w.heap.size w w' := by
  obtain ⟨hl, hc⟩ := hb
  unfold maxLen at hl
  by_cases h : 1048576 < n
  · go_enter Tryz.func4, Tryz.ntmps4
    go_wp2
    go_ret
    exact ⟨rfl, Below.refl _ _⟩
  · have hE : ∀ w, Dir w → Calls Tryz.prog 11 #[.string ({ data := #[] } : ByteArray)] w fun e w' => e = .returned (.string ({ data := #[99, 101, 108, 108, 115, 32, 48, 10] } : ByteArray)) ∧ Below w.heap.size w w' := fun w hD => impl_Execute_c [] w hD
    go_enter Tryz.func4, Tryz.ntmps4
    go_wp2_with fail
    refine (DrawExecute_c A n c _ hr (by omega) hc).mono ?_
    rintro e w1 ⟨t, ht, rfl, hb1⟩
    have hne := execT_ne t
    have hci := fun w hD => impl_Execute_c t w hD
    have hcs := fun w => spec_Execute_c t w
    obtain ⟨T, hT⟩ : ∃ T, Hid (execT t = T) := ⟨_, Lib.hid rfl⟩
    rw [hT.out] at hne hci hcs
    have hq1 : ((S T).toList == []) = false := by rw [S_list, beq_eq_false_iff_ne]; exact hne
    have hq2 : (S T).toList.isEmpty = false := by rw [S_list]; cases T <;> simp at hne ⊢
    have hq3 : (!(S T).toList.isEmpty) = true := by rw [hq2]; rfl
    go_wp2_with fail
    refine (hci _ (hD.next hb1)).mono ?_
    rintro e w2 ⟨rfl, hb2⟩
    go_wp2_with fail
    refine (hcs _).mono ?_
    rintro e w3 ⟨rfl, hb3⟩
    have hL3 := lo_trans (lo_trans hb1 hb2) hb3
    clear hci hcs
    go_wp2_with fail
    refine (hE _ (hD.next hL3)).mono ?_
    rintro e w4 ⟨rfl, hb4⟩
    go_wp2
    go_ret
    exact ⟨rfl, lo_trans hL3 hb4⟩
end Go.Proofs.YteabnljjogiflaaGreatDoor
