/- The row of the law FnExecuteNone holds; no condition beyond the listed variables. -/
import Derived.Test.YteabnljjogiflaaGreatDoorPFnExecuteNone
namespace Go.Proofs.YteabnljjogiflaaGreatDoor.fnExecuteNone
open Go.ChangeShapes Go.WideShapes Go.ChangeAt Go.RowKit
theorem over : Rows.fnExecuteNoneRow.holds Tryz.pinned (OpenSpec.ofChange Rows.fnExecuteNoneSpec) :=
  OpenClaim.holds_of_wide 4 Tryz.f4 rfl rfl rfl rfl rfl rfl rfl ⟨rfl, rfl, rfl, rfl, rfl⟩ rfl rfl rfl rfl rfl (by kernel_rfl) Tryz.func4 (by kernel_rfl)
    (of_decide_eq_true (by kernel_rfl)) (by unfold Func.isWrapper; first | (rw [if_pos (by decide +kernel)]; kernel_rfl) | (rw [if_neg (by decide +kernel)]; exact ⟨rfl, rfl⟩))
    (fun os started H enc _ => lifted os started H enc)
end Go.Proofs.YteabnljjogiflaaGreatDoor.fnExecuteNone
