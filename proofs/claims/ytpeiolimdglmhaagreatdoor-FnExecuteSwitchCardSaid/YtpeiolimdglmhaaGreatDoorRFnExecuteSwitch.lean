/- The law FnExecuteSwitch returns true for every input that can be read, and every argument reads afterwards as it did; the listed variables are tied to the program's text. -/
import Derived.Test.YtpeiolimdglmhaaGreatDoorQFnExecuteSwitch
import Derived.Test.YtpeiolimdglmhaaGreatDoorTie
import Derived.Test.YtpeiolimdglmhaaGreatDoorCards
import Derived.SevenTiedAt
namespace Go.Proofs.YtpeiolimdglmhaaGreatDoor.fnExecuteSwitch
open Go
/-- The statement. -/
theorem proved : Rows.FnExecuteSwitchCardSaid :=
  Claim7.holds_tied_plain_at .later [] [.data, .data, .data, .data, .data, .pinned] true (true, "def6ace702fbc6373e8487364a77b000cacf4164cc1d455029f3274cc845c22d") false over (fun _ h => by cases h) (by kernel_rfl) (fun _ h => by cases h) fnExecuteSwitch_row_tie rfl ⟨rfl, rfl⟩ (by kernel_rfl) rfl
    (fun f fn hf hfn => by
      obtain rfl : f = 9 := Option.some.inj ((show Tryz.prog.funcNamed "loop.example/discretetomography/laws.FnExecuteSwitch" = some 9 by kernel_rfl).symm.trans hf) |>.symm
      obtain rfl : fn = Tryz.f9 := (Option.some.inj (Tryz.func9.symm.trans hfn)).symm
      exact ⟨by kernel_rfl, fun j t ht => by
        rw [Tryz.params9] at ht
        have hm : t ∈ [22] := by simpa using Array.mem_of_getElem? ht
        have hall : ([22].all fun u => !Tryz.prog.wantsStandIn u) = true := by kernel_rfl
        exact (show Tryz.prog.wantsStandIn t = false by simpa using List.all_eq_true.1 hall t hm)⟩)
    (by kernel_rfl)
end Go.Proofs.YtpeiolimdglmhaaGreatDoor.fnExecuteSwitch
