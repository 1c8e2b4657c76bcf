/- The row of the law FnExecuteSums holds; no condition beyond the listed variables. -/
import Derived.Test.YtpeiolimdglmhaaGreatDoorPFnExecuteSums
namespace Go.Proofs.YtpeiolimdglmhaaGreatDoor.fnExecuteSums
open Go.ChangeShapes Go.WideShapes Go.ChangeAt Go.RowKit
theorem over : Rows.fnExecuteSumsRow.holds Tryz.pinned (OpenSpec.ofChange Rows.fnExecuteSumsSpec) :=
  OpenClaim.holds_of_wide 7 Tryz.f7 rfl rfl rfl rfl rfl rfl rfl ⟨rfl, rfl, rfl, rfl, rfl⟩ rfl rfl rfl rfl rfl (by kernel_rfl) Tryz.func7 (by kernel_rfl)
    (of_decide_eq_true (by kernel_rfl)) (by unfold Func.isWrapper; first | (rw [if_pos (by decide +kernel)]; kernel_rfl) | (rw [if_neg (by decide +kernel)]; exact ⟨rfl, rfl⟩))
    (fun os started H enc _ => lifted os started H enc)
end Go.Proofs.YtpeiolimdglmhaaGreatDoor.fnExecuteSums
