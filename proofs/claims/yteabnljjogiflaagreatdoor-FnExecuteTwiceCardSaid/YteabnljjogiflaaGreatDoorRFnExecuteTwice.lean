/- The law FnExecuteTwice returns true for every input that can be read, and every argument reads afterwards as it did; the listed variables are tied to the program's text. -/
import Derived.Test.YteabnljjogiflaaGreatDoorQFnExecuteTwice
import Derived.Test.YteabnljjogiflaaGreatDoorTie
import Derived.Test.YteabnljjogiflaaGreatDoorCards
import Derived.SevenTiedAt
namespace Go.Proofs.YteabnljjogiflaaGreatDoor.fnExecuteTwice
open Go
/-- The statement. -/
theorem proved : Rows.FnExecuteTwiceCardSaid :=
  Claim7.holds_tied_plain_at .later [] [.data, .data, .data, .data, .data, .pinned] true (true, "da8689d903b38dec4a899ed2b182b4d3e52163a365aa0a362f1a20cdd4ae2053") false over (fun _ h => by cases h) (by kernel_rfl) (fun _ h => by cases h) fnExecuteTwice_row_tie rfl ⟨rfl, rfl⟩ (by kernel_rfl) rfl
    (fun f fn hf hfn => by
      obtain rfl : f = 7 := Option.some.inj ((show Tryz.prog.funcNamed "loop.example/discretetomography/laws.FnExecuteTwice" = some 7 by kernel_rfl).symm.trans hf) |>.symm
      obtain rfl : fn = Tryz.f7 := (Option.some.inj (Tryz.func7.symm.trans hfn)).symm
      exact ⟨by kernel_rfl, fun j t ht => by
        rw [Tryz.params7] at ht
        have hm : t ∈ [24] := by simpa using Array.mem_of_getElem? ht
        have hall : ([24].all fun u => !Tryz.prog.wantsStandIn u) = true := by kernel_rfl
        exact (show Tryz.prog.wantsStandIn t = false by simpa using List.all_eq_true.1 hall t hm)⟩)
    (by kernel_rfl)
end Go.Proofs.YteabnljjogiflaaGreatDoor.fnExecuteTwice
