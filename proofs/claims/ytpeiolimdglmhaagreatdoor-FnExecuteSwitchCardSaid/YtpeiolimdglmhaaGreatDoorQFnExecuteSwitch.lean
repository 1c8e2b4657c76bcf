/- The row of the law FnExecuteSwitch holds; no condition beyond the listed variables. -/
import Derived.Test.YtpeiolimdglmhaaGreatDoorPFnExecuteSwitch
namespace Go.Proofs.YtpeiolimdglmhaaGreatDoor.fnExecuteSwitch
open Go.ChangeShapes Go.WideShapes Go.ChangeAt Go.RowKit
theorem over : Rows.fnExecuteSwitchRow.holds Tryz.pinned (OpenSpec.ofChange Rows.fnExecuteSwitchSpec) :=
  OpenClaim.holds_of_wide 9 Tryz.f9 rfl rfl rfl rfl rfl rfl rfl ⟨rfl, rfl, rfl, rfl, rfl⟩ rfl rfl rfl rfl rfl (by kernel_rfl) Tryz.func9 (by kernel_rfl)
    (of_decide_eq_true (by kernel_rfl)) (by unfold Func.isWrapper; first | (rw [if_pos (by decide +kernel)]; kernel_rfl) | (rw [if_neg (by decide +kernel)]; exact ⟨rfl, rfl⟩))
    (fun os started H enc _ => lifted os started H enc)
end Go.Proofs.YtpeiolimdglmhaaGreatDoor.fnExecuteSwitch
