/- The row of the law FnExecuteProof holds; no condition beyond the listed variables. -/
import Derived.Test.YtpeiolimdglmhaaGreatDoorPFnExecuteProof
namespace Go.Proofs.YtpeiolimdglmhaaGreatDoor.fnExecuteProof
open Go.ChangeShapes Go.WideShapes Go.ChangeAt Go.RowKit
theorem over : Rows.fnExecuteProofRow.holds Tryz.pinned (OpenSpec.ofChange Rows.fnExecuteProofSpec) :=
  OpenClaim.holds_of_wide 8 Tryz.f8 rfl rfl rfl rfl rfl rfl rfl ⟨rfl, rfl, rfl, rfl, rfl⟩ rfl rfl rfl rfl rfl (by kernel_rfl) Tryz.func8 (by kernel_rfl)
    (of_decide_eq_true (by kernel_rfl)) (by unfold Func.isWrapper; first | (rw [if_pos (by decide +kernel)]; kernel_rfl) | (rw [if_neg (by decide +kernel)]; exact ⟨rfl, rfl⟩))
    (fun os started H enc _ => lifted os started H enc)
end Go.Proofs.YtpeiolimdglmhaaGreatDoor.fnExecuteProof
