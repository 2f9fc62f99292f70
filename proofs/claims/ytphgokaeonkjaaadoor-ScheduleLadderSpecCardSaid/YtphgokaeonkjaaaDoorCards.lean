/-
  DERIVED. GIVEN WITH THE SEED: THE CARDS: each row of YtphgokaeonkjaaaDoorRows.lean that lists a variable, with what it lists TIED to the program's text (the seventh form; the later family's looks); each row that meets fmt, with fmt's text TOLD by the authors' own Lean function (tested against real Go, not proved from fmt's source: count such statements apart). THE CARD IS WHAT COUNTS. Prove the row's statement (the work); the ties are given (YtphgokaeonkjaaaDoorTie.lean); close each card by the builder's one call (the guide's Derived/Test/ToyasCard.lean, 'card_holds'). Laid BY PROGRAM, IN A SANDBOX (cutbox-door.mjs). By AI agents, Wed Nov 11 2026. No macro, syntax, notation, axiom, sorry.
-/
import Derived.Test.YtphgokaeonkjaaaDoorRows
import GoSem.ClaimSeven
namespace Go.Proofs.YtphgokaeonkjaaaDoor
namespace Rows

/-- THE TIED CARD OF 'chartroomlaw07.DeriveStepSpec'. -/
def deriveStepSpecCard : Claim7 := { stood := { row := deriveStepSpecRow, standIns := [], harness := (true, "ae0db50a88c6847c46d00992b526374f771d28035562051f40ca30a6ab67bf02"), looks := true }, kinds := [], alts := [], laidByText := true, laidKinds := [.data, .data, .sentinel], laidTests := true, laidLooks := .later }
def DeriveStepSpecCardSaid : Prop := Claim7.holds Tryd.pinned (.plain (OpenSpec.ofChange deriveStepSpecSpec)) deriveStepSpecCard

/-- THE TIED CARD OF 'chartroomlaw07.DeriveScalarSpec'. -/
def deriveScalarSpecCard : Claim7 := { stood := { row := deriveScalarSpecRow, standIns := [], harness := (true, "ae0db50a88c6847c46d00992b526374f771d28035562051f40ca30a6ab67bf02"), looks := true }, kinds := [], alts := [], laidByText := true, laidKinds := [.data, .data, .sentinel], laidTests := true, laidLooks := .later }
def DeriveScalarSpecCardSaid : Prop := Claim7.holds Tryd.pinned (.plain (OpenSpec.ofChange deriveScalarSpecSpec)) deriveScalarSpecCard

/-- THE TIED CARD OF 'chartroomlaw07.DeriveChain'. -/
def deriveChainCard : Claim7 := { stood := { row := deriveChainRow, standIns := [], harness := (true, "ae0db50a88c6847c46d00992b526374f771d28035562051f40ca30a6ab67bf02"), looks := true }, kinds := [], alts := [], laidByText := true, laidKinds := [.data, .data, .sentinel], laidTests := true, laidLooks := .later }
def DeriveChainCardSaid : Prop := Claim7.holds Tryd.pinned (.plain (OpenSpec.ofChange deriveChainSpec)) deriveChainCard

/-- THE TIED CARD OF 'chartroomlaw07.DeriveKeysSpec'. -/
def deriveKeysSpecCard : Claim7 := { stood := { row := deriveKeysSpecRow, standIns := [], harness := (true, "ae0db50a88c6847c46d00992b526374f771d28035562051f40ca30a6ab67bf02"), looks := true }, kinds := [], alts := [], laidByText := true, laidKinds := [.data, .data, .sentinel], laidTests := true, laidLooks := .later }
def DeriveKeysSpecCardSaid : Prop := Claim7.holds Tryd.pinned (.plain (OpenSpec.ofChange deriveKeysSpecSpec)) deriveKeysSpecCard

/-- THE TIED CARD OF 'chartroomlaw07.DeriveMixed'. -/
def deriveMixedCard : Claim7 := { stood := { row := deriveMixedRow, standIns := [], harness := (true, "ae0db50a88c6847c46d00992b526374f771d28035562051f40ca30a6ab67bf02"), looks := true }, kinds := [], alts := [], laidByText := true, laidKinds := [.data, .data, .sentinel], laidTests := true, laidLooks := .later }
def DeriveMixedCardSaid : Prop := Claim7.holds Tryd.pinned (.plain (OpenSpec.ofChange deriveMixedSpec)) deriveMixedCard

/-- THE TIED CARD OF 'chartroomlaw22.ScheduleLadderSpec'. -/
def scheduleLadderSpecCard : Claim7 := { stood := { row := scheduleLadderSpecRow, standIns := [], harness := (true, "ae0db50a88c6847c46d00992b526374f771d28035562051f40ca30a6ab67bf02"), looks := true }, kinds := [], alts := [], laidByText := true, laidKinds := [.data, .data, .sentinel, .data], laidTests := true, laidLooks := .later }
def ScheduleLadderSpecCardSaid : Prop := Claim7.holds Tryd.pinned (.plain (OpenSpec.ofChange scheduleLadderSpecSpec)) scheduleLadderSpecCard

/-- THE TIED CARD OF 'chartroomlaw22.ScheduleAbove'. -/
def scheduleAboveCard : Claim7 := { stood := { row := scheduleAboveRow, standIns := [], harness := (true, "ae0db50a88c6847c46d00992b526374f771d28035562051f40ca30a6ab67bf02"), looks := true }, kinds := [], alts := [], laidByText := true, laidKinds := [.data, .data, .sentinel, .data], laidTests := true, laidLooks := .later }
def ScheduleAboveCardSaid : Prop := Claim7.holds Tryd.pinned (.plain (OpenSpec.ofChange scheduleAboveSpec)) scheduleAboveCard

/-- THE TIED CARD OF 'chartroomlaw22.ScheduleEpochSpec'. -/
def scheduleEpochSpecCard : Claim7 := { stood := { row := scheduleEpochSpecRow, standIns := [], harness := (true, "ae0db50a88c6847c46d00992b526374f771d28035562051f40ca30a6ab67bf02"), looks := true }, kinds := [], alts := [], laidByText := true, laidKinds := [.data, .data, .sentinel, .data], laidTests := true, laidLooks := .later }
def ScheduleEpochSpecCardSaid : Prop := Claim7.holds Tryd.pinned (.plain (OpenSpec.ofChange scheduleEpochSpecSpec)) scheduleEpochSpecCard

/-- THE TIED CARD OF 'chartroomlaw22.ScheduleChain'. -/
def scheduleChainCard : Claim7 := { stood := { row := scheduleChainRow, standIns := [], harness := (true, "ae0db50a88c6847c46d00992b526374f771d28035562051f40ca30a6ab67bf02"), looks := true }, kinds := [], alts := [], laidByText := true, laidKinds := [.data, .data, .sentinel, .data], laidTests := true, laidLooks := .later }
def ScheduleChainCardSaid : Prop := Claim7.holds Tryd.pinned (.plain (OpenSpec.ofChange scheduleChainSpec)) scheduleChainCard

/-- THE TIED CARD OF 'chartroomlaw22.ScheduleKeysSpec'. -/
def scheduleKeysSpecCard : Claim7 := { stood := { row := scheduleKeysSpecRow, standIns := [], harness := (true, "ae0db50a88c6847c46d00992b526374f771d28035562051f40ca30a6ab67bf02"), looks := true }, kinds := [], alts := [], laidByText := true, laidKinds := [.data, .data, .sentinel, .data], laidTests := true, laidLooks := .later }
def ScheduleKeysSpecCardSaid : Prop := Claim7.holds Tryd.pinned (.plain (OpenSpec.ofChange scheduleKeysSpecSpec)) scheduleKeysSpecCard

/-- THE TIED CARD OF 'chartroomlaw07.DerivePrivate'. -/
def derivePrivateCard : Claim7 := { stood := { row := derivePrivateRow, standIns := [], harness := (true, "ae0db50a88c6847c46d00992b526374f771d28035562051f40ca30a6ab67bf02"), looks := true }, kinds := [], alts := [], laidByText := true, laidKinds := [.data, .data, .sentinel], laidTests := true, laidLooks := .later }
def DerivePrivateCardSaid : Prop := Claim7.holds Tryd.pinned (.plain (OpenSpec.ofChange derivePrivateSpec)) derivePrivateCard

/-- THE TIED CARD OF 'chartroomlaw07.DeriveHashed'. -/
def deriveHashedCard : Claim7 := { stood := { row := deriveHashedRow, standIns := [], harness := (true, "ae0db50a88c6847c46d00992b526374f771d28035562051f40ca30a6ab67bf02"), looks := true }, kinds := [], alts := [], laidByText := true, laidKinds := [.data, .data, .sentinel], laidTests := true, laidLooks := .later }
def DeriveHashedCardSaid : Prop := Claim7.holds Tryd.pinned (.plain (OpenSpec.ofChange deriveHashedSpec)) deriveHashedCard

/-- THE TIED CARD OF 'chartroomlaw22.SchedulePurposes'. -/
def schedulePurposesCard : Claim7 := { stood := { row := schedulePurposesRow, standIns := [], harness := (true, "ae0db50a88c6847c46d00992b526374f771d28035562051f40ca30a6ab67bf02"), looks := true }, kinds := [], alts := [], laidByText := true, laidKinds := [.data, .data, .sentinel, .data], laidTests := true, laidLooks := .later }
def SchedulePurposesCardSaid : Prop := Claim7.holds Tryd.pinned (.plain (OpenSpec.ofChange schedulePurposesSpec)) schedulePurposesCard

/-- THE SECOND FORM's CARD OF 'chartroomlaw07.DeriveStepSpec'. -/
def deriveStepSpecUptoCard : Claim7 := { stood := { row := deriveStepSpecUptoRow, standIns := [], harness := (true, "ae0db50a88c6847c46d00992b526374f771d28035562051f40ca30a6ab67bf02"), looks := true }, kinds := [], alts := [], laidByText := true, laidKinds := [.data, .data, .sentinel], laidTests := true, laidLooks := .later }
def DeriveStepSpecUptoCardSaid : Prop := Claim7.holds Tryd.pinned (.plain (OpenSpec.upto deriveStepSpecSpec)) deriveStepSpecUptoCard

/-- THE SECOND FORM's CARD OF 'chartroomlaw07.DeriveScalarSpec'. -/
def deriveScalarSpecUptoCard : Claim7 := { stood := { row := deriveScalarSpecUptoRow, standIns := [], harness := (true, "ae0db50a88c6847c46d00992b526374f771d28035562051f40ca30a6ab67bf02"), looks := true }, kinds := [], alts := [], laidByText := true, laidKinds := [.data, .data, .sentinel], laidTests := true, laidLooks := .later }
def DeriveScalarSpecUptoCardSaid : Prop := Claim7.holds Tryd.pinned (.plain (OpenSpec.upto deriveScalarSpecSpec)) deriveScalarSpecUptoCard

/-- THE SECOND FORM's CARD OF 'chartroomlaw07.DeriveChain'. -/
def deriveChainUptoCard : Claim7 := { stood := { row := deriveChainUptoRow, standIns := [], harness := (true, "ae0db50a88c6847c46d00992b526374f771d28035562051f40ca30a6ab67bf02"), looks := true }, kinds := [], alts := [], laidByText := true, laidKinds := [.data, .data, .sentinel], laidTests := true, laidLooks := .later }
def DeriveChainUptoCardSaid : Prop := Claim7.holds Tryd.pinned (.plain (OpenSpec.upto deriveChainSpec)) deriveChainUptoCard

/-- THE SECOND FORM's CARD OF 'chartroomlaw07.DeriveKeysSpec'. -/
def deriveKeysSpecUptoCard : Claim7 := { stood := { row := deriveKeysSpecUptoRow, standIns := [], harness := (true, "ae0db50a88c6847c46d00992b526374f771d28035562051f40ca30a6ab67bf02"), looks := true }, kinds := [], alts := [], laidByText := true, laidKinds := [.data, .data, .sentinel], laidTests := true, laidLooks := .later }
def DeriveKeysSpecUptoCardSaid : Prop := Claim7.holds Tryd.pinned (.plain (OpenSpec.upto deriveKeysSpecSpec)) deriveKeysSpecUptoCard

/-- THE SECOND FORM's CARD OF 'chartroomlaw07.DeriveMixed'. -/
def deriveMixedUptoCard : Claim7 := { stood := { row := deriveMixedUptoRow, standIns := [], harness := (true, "ae0db50a88c6847c46d00992b526374f771d28035562051f40ca30a6ab67bf02"), looks := true }, kinds := [], alts := [], laidByText := true, laidKinds := [.data, .data, .sentinel], laidTests := true, laidLooks := .later }
def DeriveMixedUptoCardSaid : Prop := Claim7.holds Tryd.pinned (.plain (OpenSpec.upto deriveMixedSpec)) deriveMixedUptoCard

/-- THE SECOND FORM's CARD OF 'chartroomlaw22.ScheduleLadderSpec'. -/
def scheduleLadderSpecUptoCard : Claim7 := { stood := { row := scheduleLadderSpecUptoRow, standIns := [], harness := (true, "ae0db50a88c6847c46d00992b526374f771d28035562051f40ca30a6ab67bf02"), looks := true }, kinds := [], alts := [], laidByText := true, laidKinds := [.data, .data, .sentinel, .data], laidTests := true, laidLooks := .later }
def ScheduleLadderSpecUptoCardSaid : Prop := Claim7.holds Tryd.pinned (.plain (OpenSpec.upto scheduleLadderSpecSpec)) scheduleLadderSpecUptoCard

/-- THE SECOND FORM's CARD OF 'chartroomlaw22.ScheduleAbove'. -/
def scheduleAboveUptoCard : Claim7 := { stood := { row := scheduleAboveUptoRow, standIns := [], harness := (true, "ae0db50a88c6847c46d00992b526374f771d28035562051f40ca30a6ab67bf02"), looks := true }, kinds := [], alts := [], laidByText := true, laidKinds := [.data, .data, .sentinel, .data], laidTests := true, laidLooks := .later }
def ScheduleAboveUptoCardSaid : Prop := Claim7.holds Tryd.pinned (.plain (OpenSpec.upto scheduleAboveSpec)) scheduleAboveUptoCard

/-- THE SECOND FORM's CARD OF 'chartroomlaw22.ScheduleEpochSpec'. -/
def scheduleEpochSpecUptoCard : Claim7 := { stood := { row := scheduleEpochSpecUptoRow, standIns := [], harness := (true, "ae0db50a88c6847c46d00992b526374f771d28035562051f40ca30a6ab67bf02"), looks := true }, kinds := [], alts := [], laidByText := true, laidKinds := [.data, .data, .sentinel, .data], laidTests := true, laidLooks := .later }
def ScheduleEpochSpecUptoCardSaid : Prop := Claim7.holds Tryd.pinned (.plain (OpenSpec.upto scheduleEpochSpecSpec)) scheduleEpochSpecUptoCard

/-- THE SECOND FORM's CARD OF 'chartroomlaw22.ScheduleChain'. -/
def scheduleChainUptoCard : Claim7 := { stood := { row := scheduleChainUptoRow, standIns := [], harness := (true, "ae0db50a88c6847c46d00992b526374f771d28035562051f40ca30a6ab67bf02"), looks := true }, kinds := [], alts := [], laidByText := true, laidKinds := [.data, .data, .sentinel, .data], laidTests := true, laidLooks := .later }
def ScheduleChainUptoCardSaid : Prop := Claim7.holds Tryd.pinned (.plain (OpenSpec.upto scheduleChainSpec)) scheduleChainUptoCard

/-- THE SECOND FORM's CARD OF 'chartroomlaw22.ScheduleKeysSpec'. -/
def scheduleKeysSpecUptoCard : Claim7 := { stood := { row := scheduleKeysSpecUptoRow, standIns := [], harness := (true, "ae0db50a88c6847c46d00992b526374f771d28035562051f40ca30a6ab67bf02"), looks := true }, kinds := [], alts := [], laidByText := true, laidKinds := [.data, .data, .sentinel, .data], laidTests := true, laidLooks := .later }
def ScheduleKeysSpecUptoCardSaid : Prop := Claim7.holds Tryd.pinned (.plain (OpenSpec.upto scheduleKeysSpecSpec)) scheduleKeysSpecUptoCard

/-- THE SECOND FORM's CARD OF 'chartroomlaw07.DerivePrivate'. -/
def derivePrivateUptoCard : Claim7 := { stood := { row := derivePrivateUptoRow, standIns := [], harness := (true, "ae0db50a88c6847c46d00992b526374f771d28035562051f40ca30a6ab67bf02"), looks := true }, kinds := [], alts := [], laidByText := true, laidKinds := [.data, .data, .sentinel], laidTests := true, laidLooks := .later }
def DerivePrivateUptoCardSaid : Prop := Claim7.holds Tryd.pinned (.plain (OpenSpec.upto derivePrivateSpec)) derivePrivateUptoCard

/-- THE SECOND FORM's CARD OF 'chartroomlaw07.DeriveHashed'. -/
def deriveHashedUptoCard : Claim7 := { stood := { row := deriveHashedUptoRow, standIns := [], harness := (true, "ae0db50a88c6847c46d00992b526374f771d28035562051f40ca30a6ab67bf02"), looks := true }, kinds := [], alts := [], laidByText := true, laidKinds := [.data, .data, .sentinel], laidTests := true, laidLooks := .later }
def DeriveHashedUptoCardSaid : Prop := Claim7.holds Tryd.pinned (.plain (OpenSpec.upto deriveHashedSpec)) deriveHashedUptoCard

/-- THE SECOND FORM's CARD OF 'chartroomlaw22.SchedulePurposes'. -/
def schedulePurposesUptoCard : Claim7 := { stood := { row := schedulePurposesUptoRow, standIns := [], harness := (true, "ae0db50a88c6847c46d00992b526374f771d28035562051f40ca30a6ab67bf02"), looks := true }, kinds := [], alts := [], laidByText := true, laidKinds := [.data, .data, .sentinel, .data], laidTests := true, laidLooks := .later }
def SchedulePurposesUptoCardSaid : Prop := Claim7.holds Tryd.pinned (.plain (OpenSpec.upto schedulePurposesSpec)) schedulePurposesUptoCard
end Rows
end Go.Proofs.YtphgokaeonkjaaaDoor
