/-
  DERIVED. GIVEN WITH THE SEED: THE CARDS: each row of YtpeiolimdglmhaaGreatDoorRows.lean that lists a variable, with what it lists TIED to the program's text (the seventh form; the later family's looks); each row that meets fmt, with fmt's text TOLD by the authors' own Lean function (tested against real Go, not proved from fmt's source: count such statements apart). THE CARD IS WHAT COUNTS. Prove the row's statement (the work); the ties are given (YtpeiolimdglmhaaGreatDoorTie.lean); close each card by the builder's one call (the guide's Derived/Test/ToyasCard.lean, 'card_holds'). Laid BY PROGRAM, IN A SANDBOX (cutbox-door.mjs). By AI agents, Wed Nov 11 2026. No macro, syntax, notation, axiom, sorry.
-/
import Derived.Test.YtpeiolimdglmhaaGreatDoorRows
import GoSem.ClaimSeven
namespace Go.Proofs.YtpeiolimdglmhaaGreatDoor
namespace Rows

/-- THE TIED CARD OF 'laws.FnExecuteShow'. -/
def fnExecuteShowCard : Claim7 := { stood := { row := fnExecuteShowRow, standIns := [], harness := (true, "def6ace702fbc6373e8487364a77b000cacf4164cc1d455029f3274cc845c22d"), looks := false }, kinds := [], alts := [], laidByText := true, laidKinds := [.data, .data, .data, .data, .data, .pinned], laidTests := true, laidLooks := .later }
def FnExecuteShowCardSaid : Prop := Claim7.holds Tryz.pinned (.plain (OpenSpec.ofChange fnExecuteShowSpec)) fnExecuteShowCard

/-- THE TIED CARD OF 'laws.FnExecuteNext'. -/
def fnExecuteNextCard : Claim7 := { stood := { row := fnExecuteNextRow, standIns := [], harness := (true, "def6ace702fbc6373e8487364a77b000cacf4164cc1d455029f3274cc845c22d"), looks := false }, kinds := [], alts := [], laidByText := true, laidKinds := [.data, .data, .data, .data, .data, .pinned], laidTests := true, laidLooks := .later }
def FnExecuteNextCardSaid : Prop := Claim7.holds Tryz.pinned (.plain (OpenSpec.ofChange fnExecuteNextSpec)) fnExecuteNextCard

/-- THE TIED CARD OF 'laws.FnExecuteUnique'. -/
def fnExecuteUniqueCard : Claim7 := { stood := { row := fnExecuteUniqueRow, standIns := [], harness := (true, "def6ace702fbc6373e8487364a77b000cacf4164cc1d455029f3274cc845c22d"), looks := false }, kinds := [], alts := [], laidByText := true, laidKinds := [.data, .data, .data, .data, .data, .pinned], laidTests := true, laidLooks := .later }
def FnExecuteUniqueCardSaid : Prop := Claim7.holds Tryz.pinned (.plain (OpenSpec.ofChange fnExecuteUniqueSpec)) fnExecuteUniqueCard

/-- THE TIED CARD OF 'laws.FnExecuteLines'. -/
def fnExecuteLinesCard : Claim7 := { stood := { row := fnExecuteLinesRow, standIns := [], harness := (true, "def6ace702fbc6373e8487364a77b000cacf4164cc1d455029f3274cc845c22d"), looks := false }, kinds := [], alts := [], laidByText := true, laidKinds := [.data, .data, .data, .data, .data, .pinned], laidTests := true, laidLooks := .later }
def FnExecuteLinesCardSaid : Prop := Claim7.holds Tryz.pinned (.plain (OpenSpec.ofChange fnExecuteLinesSpec)) fnExecuteLinesCard

/-- THE TIED CARD OF 'laws.FnExecuteSums'. -/
def fnExecuteSumsCard : Claim7 := { stood := { row := fnExecuteSumsRow, standIns := [], harness := (true, "def6ace702fbc6373e8487364a77b000cacf4164cc1d455029f3274cc845c22d"), looks := false }, kinds := [], alts := [], laidByText := true, laidKinds := [.data, .data, .data, .data, .data, .pinned], laidTests := true, laidLooks := .later }
def FnExecuteSumsCardSaid : Prop := Claim7.holds Tryz.pinned (.plain (OpenSpec.ofChange fnExecuteSumsSpec)) fnExecuteSumsCard

/-- THE TIED CARD OF 'laws.FnExecuteProof'. -/
def fnExecuteProofCard : Claim7 := { stood := { row := fnExecuteProofRow, standIns := [], harness := (true, "def6ace702fbc6373e8487364a77b000cacf4164cc1d455029f3274cc845c22d"), looks := false }, kinds := [], alts := [], laidByText := true, laidKinds := [.data, .data, .data, .data, .data, .pinned], laidTests := true, laidLooks := .later }
def FnExecuteProofCardSaid : Prop := Claim7.holds Tryz.pinned (.plain (OpenSpec.ofChange fnExecuteProofSpec)) fnExecuteProofCard

/-- THE TIED CARD OF 'laws.FnExecuteSwitch'. -/
def fnExecuteSwitchCard : Claim7 := { stood := { row := fnExecuteSwitchRow, standIns := [], harness := (true, "def6ace702fbc6373e8487364a77b000cacf4164cc1d455029f3274cc845c22d"), looks := false }, kinds := [], alts := [], laidByText := true, laidKinds := [.data, .data, .data, .data, .data, .pinned], laidTests := true, laidLooks := .later }
def FnExecuteSwitchCardSaid : Prop := Claim7.holds Tryz.pinned (.plain (OpenSpec.ofChange fnExecuteSwitchSpec)) fnExecuteSwitchCard

/-- THE TIED CARD OF 'laws.FnExecuteBuild'. -/
def fnExecuteBuildCard : Claim7 := { stood := { row := fnExecuteBuildRow, standIns := [], harness := (true, "def6ace702fbc6373e8487364a77b000cacf4164cc1d455029f3274cc845c22d"), looks := false }, kinds := [], alts := [], laidByText := true, laidKinds := [.data, .data, .data, .data, .data, .pinned], laidTests := true, laidLooks := .later }
def FnExecuteBuildCardSaid : Prop := Claim7.holds Tryz.pinned (.plain (OpenSpec.ofChange fnExecuteBuildSpec)) fnExecuteBuildCard

/-- THE SECOND FORM's CARD OF 'laws.FnExecuteShow'. -/
def fnExecuteShowUptoCard : Claim7 := { stood := { row := fnExecuteShowUptoRow, standIns := [], harness := (true, "def6ace702fbc6373e8487364a77b000cacf4164cc1d455029f3274cc845c22d"), looks := false }, kinds := [], alts := [], laidByText := true, laidKinds := [.data, .data, .data, .data, .data, .pinned], laidTests := true, laidLooks := .later }
def FnExecuteShowUptoCardSaid : Prop := Claim7.holds Tryz.pinned (.plain (OpenSpec.upto fnExecuteShowSpec)) fnExecuteShowUptoCard

/-- THE SECOND FORM's CARD OF 'laws.FnExecuteNext'. -/
def fnExecuteNextUptoCard : Claim7 := { stood := { row := fnExecuteNextUptoRow, standIns := [], harness := (true, "def6ace702fbc6373e8487364a77b000cacf4164cc1d455029f3274cc845c22d"), looks := false }, kinds := [], alts := [], laidByText := true, laidKinds := [.data, .data, .data, .data, .data, .pinned], laidTests := true, laidLooks := .later }
def FnExecuteNextUptoCardSaid : Prop := Claim7.holds Tryz.pinned (.plain (OpenSpec.upto fnExecuteNextSpec)) fnExecuteNextUptoCard

/-- THE SECOND FORM's CARD OF 'laws.FnExecuteUnique'. -/
def fnExecuteUniqueUptoCard : Claim7 := { stood := { row := fnExecuteUniqueUptoRow, standIns := [], harness := (true, "def6ace702fbc6373e8487364a77b000cacf4164cc1d455029f3274cc845c22d"), looks := false }, kinds := [], alts := [], laidByText := true, laidKinds := [.data, .data, .data, .data, .data, .pinned], laidTests := true, laidLooks := .later }
def FnExecuteUniqueUptoCardSaid : Prop := Claim7.holds Tryz.pinned (.plain (OpenSpec.upto fnExecuteUniqueSpec)) fnExecuteUniqueUptoCard

/-- THE SECOND FORM's CARD OF 'laws.FnExecuteLines'. -/
def fnExecuteLinesUptoCard : Claim7 := { stood := { row := fnExecuteLinesUptoRow, standIns := [], harness := (true, "def6ace702fbc6373e8487364a77b000cacf4164cc1d455029f3274cc845c22d"), looks := false }, kinds := [], alts := [], laidByText := true, laidKinds := [.data, .data, .data, .data, .data, .pinned], laidTests := true, laidLooks := .later }
def FnExecuteLinesUptoCardSaid : Prop := Claim7.holds Tryz.pinned (.plain (OpenSpec.upto fnExecuteLinesSpec)) fnExecuteLinesUptoCard

/-- THE SECOND FORM's CARD OF 'laws.FnExecuteSums'. -/
def fnExecuteSumsUptoCard : Claim7 := { stood := { row := fnExecuteSumsUptoRow, standIns := [], harness := (true, "def6ace702fbc6373e8487364a77b000cacf4164cc1d455029f3274cc845c22d"), looks := false }, kinds := [], alts := [], laidByText := true, laidKinds := [.data, .data, .data, .data, .data, .pinned], laidTests := true, laidLooks := .later }
def FnExecuteSumsUptoCardSaid : Prop := Claim7.holds Tryz.pinned (.plain (OpenSpec.upto fnExecuteSumsSpec)) fnExecuteSumsUptoCard

/-- THE SECOND FORM's CARD OF 'laws.FnExecuteProof'. -/
def fnExecuteProofUptoCard : Claim7 := { stood := { row := fnExecuteProofUptoRow, standIns := [], harness := (true, "def6ace702fbc6373e8487364a77b000cacf4164cc1d455029f3274cc845c22d"), looks := false }, kinds := [], alts := [], laidByText := true, laidKinds := [.data, .data, .data, .data, .data, .pinned], laidTests := true, laidLooks := .later }
def FnExecuteProofUptoCardSaid : Prop := Claim7.holds Tryz.pinned (.plain (OpenSpec.upto fnExecuteProofSpec)) fnExecuteProofUptoCard

/-- THE SECOND FORM's CARD OF 'laws.FnExecuteSwitch'. -/
def fnExecuteSwitchUptoCard : Claim7 := { stood := { row := fnExecuteSwitchUptoRow, standIns := [], harness := (true, "def6ace702fbc6373e8487364a77b000cacf4164cc1d455029f3274cc845c22d"), looks := false }, kinds := [], alts := [], laidByText := true, laidKinds := [.data, .data, .data, .data, .data, .pinned], laidTests := true, laidLooks := .later }
def FnExecuteSwitchUptoCardSaid : Prop := Claim7.holds Tryz.pinned (.plain (OpenSpec.upto fnExecuteSwitchSpec)) fnExecuteSwitchUptoCard

/-- THE SECOND FORM's CARD OF 'laws.FnExecuteBuild'. -/
def fnExecuteBuildUptoCard : Claim7 := { stood := { row := fnExecuteBuildUptoRow, standIns := [], harness := (true, "def6ace702fbc6373e8487364a77b000cacf4164cc1d455029f3274cc845c22d"), looks := false }, kinds := [], alts := [], laidByText := true, laidKinds := [.data, .data, .data, .data, .data, .pinned], laidTests := true, laidLooks := .later }
def FnExecuteBuildUptoCardSaid : Prop := Claim7.holds Tryz.pinned (.plain (OpenSpec.upto fnExecuteBuildSpec)) fnExecuteBuildUptoCard
end Rows
end Go.Proofs.YtpeiolimdglmhaaGreatDoor
