/- The row of the law FnExecuteBuild holds; no condition beyond the listed variables. -/
import Derived.Test.YtpeiolimdglmhaaGreatDoorPFnExecuteBuild
namespace Go.Proofs.YtpeiolimdglmhaaGreatDoor.fnExecuteBuild
open Go.ChangeShapes Go.WideShapes Go.ChangeAt Go.RowKit
theorem over : Rows.fnExecuteBuildRow.holds Tryz.pinned (OpenSpec.ofChange Rows.fnExecuteBuildSpec) :=
  OpenClaim.holds_of_wide 10 Tryz.f10 rfl rfl rfl rfl rfl rfl rfl ⟨rfl, rfl, rfl, rfl, rfl⟩ rfl rfl rfl rfl rfl (by kernel_rfl) Tryz.func10 (by kernel_rfl)
    (of_decide_eq_true (by kernel_rfl)) (by unfold Func.isWrapper; first | (rw [if_pos (by decide +kernel)]; kernel_rfl) | (rw [if_neg (by decide +kernel)]; exact ⟨rfl, rfl⟩))
    (fun os started H enc _ => lifted os started H enc)
end Go.Proofs.YtpeiolimdglmhaaGreatDoor.fnExecuteBuild
