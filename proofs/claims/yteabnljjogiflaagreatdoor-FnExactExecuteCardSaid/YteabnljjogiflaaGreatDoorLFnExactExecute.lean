/- The walk of the law FnExactExecute: it returns true for every text of a length in the limits, where the table of directions is as the program lays it. -/
import Derived.Test.YteabnljjogiflaaGreatDoorZ42
import Derived.Test.YteabnljjogiflaaGreatDoorZ44
namespace Go.Proofs.YteabnljjogiflaaGreatDoor
open Go.RowKit
set_option maxRecDepth 100000

theorem S_of (s : ByteArray) : s = S s.data.toList := rfl
set_option maxHeartbeats 1000000 in
theorem law_ExactExecute (s : ByteArray) (w : World) (hs : s.size ≤ maxLen) (hD : Dir w) :
    Calls Tryz.prog 3 #[.string s] w fun e w' => e = .returned (.bool true) ∧ Below w.heap.size w w' := by
  unfold maxLen at hs
  obtain ⟨t, ht⟩ : ∃ t, s = S t := ⟨s.data.toList, S_of s⟩
  subst ht
  have hsz := S_size t
  rw [hsz] at hs
  obtain ⟨T, hT⟩ : ∃ T, Hid (execT t = T) := ⟨_, Lib.hid rfl⟩
  by_cases h : 1048576 < t.length
  · go_enter Tryz.func3, Tryz.ntmps3
    go_wp2
    go_ret
    exact ⟨rfl, Below.refl _ _⟩
  · go_enter Tryz.func3, Tryz.ntmps3
    go_wp2_with fail
    refine (spec_Execute_c t _).mono ?_
    rw [hT.out]
    rintro e w1 ⟨rfl, hb1⟩
    go_wp2_with fail
    refine (impl_Execute_c t _ (hD.next hb1)).mono ?_
    rw [hT.out]
    rintro e w2 ⟨rfl, hb2⟩
    go_wp2
    go_ret
    exact ⟨rfl, lo_trans hb1 hb2⟩
end Go.Proofs.YteabnljjogiflaaGreatDoor
