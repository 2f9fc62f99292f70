/-
  DERIVED. GIVEN WITH THE SEED: THE PROGRAM's TIES (one call each: nine closed facts by the kernel) AND EACH ROW's TIE, after the 31st guide's Derived/Test/Toyas{Tie, Card}.lean. No idea stands in it: it is a product of the set-up. Laid BY PROGRAM, IN A SANDBOX (cutbox-door.mjs). By AI agents, Wed Nov 11 2026. No macro, syntax, notation, axiom, sorry.
-/
import Derived.Test.YtphgokaeonkjaaaDoorRows
import Derived.LaidByTextLater
import Derived.SevenTiedAt
import Derived.LaidSub
import Derived.LaidOnce
namespace Go.Proofs.YtphgokaeonkjaaaDoor
open Go
set_option maxRecDepth 100000
theorem seatTie1 : Tryd.prog.laidByTextLater [("chartroom/digest.start", Rows.laid_chartroom_digest_start), ("chartroom/digest.numbers", Rows.laid_chartroom_digest_numbers), ("bytes.ErrTooLarge", Rows.laid_bytes_ErrTooLarge), ("chartroom/schedule.labels", Rows.laid_chartroom_schedule_labels)] [.data, .data, .sentinel, .data] true :=
  Program.laidByTextLater_by_one 43 8 65 (by kernel_rfl) (by kernel_rfl) (by kernel_rfl) (by kernel_rfl) (by kernel_rfl) (by kernel_rfl) (fun _ _ => by kernel_rfl)
theorem noOwnUnsafe : Tryd.pinned.checked.prog.headLifts.contains "ownunsafe" = false := by kernel_rfl
theorem tie : Tryd.prog.laidByTextLater [("chartroom/digest.start", Rows.laid_chartroom_digest_start), ("chartroom/digest.numbers", Rows.laid_chartroom_digest_numbers), ("bytes.ErrTooLarge", Rows.laid_bytes_ErrTooLarge)] [.data, .data, .sentinel] true :=
  Program.laidByTextLater.sub seatTie1 ["chartroom/digest.start", "chartroom/digest.numbers", "bytes.ErrTooLarge"] (by kernel_rfl) (by kernel_rfl)
theorem deriveStepSpec_row_tie : Rows.deriveStepSpecRow.laidByTextAt .later Tryd.pinned [.data, .data, .sentinel] true :=
  OpenClaim.laidByTextAt_later rfl rfl tie noOwnUnsafe
theorem deriveScalarSpec_row_tie : Rows.deriveScalarSpecRow.laidByTextAt .later Tryd.pinned [.data, .data, .sentinel] true :=
  OpenClaim.laidByTextAt_later rfl rfl tie noOwnUnsafe
theorem deriveChain_row_tie : Rows.deriveChainRow.laidByTextAt .later Tryd.pinned [.data, .data, .sentinel] true :=
  OpenClaim.laidByTextAt_later rfl rfl tie noOwnUnsafe
theorem deriveKeysSpec_row_tie : Rows.deriveKeysSpecRow.laidByTextAt .later Tryd.pinned [.data, .data, .sentinel] true :=
  OpenClaim.laidByTextAt_later rfl rfl tie noOwnUnsafe
theorem deriveMixed_row_tie : Rows.deriveMixedRow.laidByTextAt .later Tryd.pinned [.data, .data, .sentinel] true :=
  OpenClaim.laidByTextAt_later rfl rfl tie noOwnUnsafe
theorem derivePrivate_row_tie : Rows.derivePrivateRow.laidByTextAt .later Tryd.pinned [.data, .data, .sentinel] true :=
  OpenClaim.laidByTextAt_later rfl rfl tie noOwnUnsafe
theorem deriveHashed_row_tie : Rows.deriveHashedRow.laidByTextAt .later Tryd.pinned [.data, .data, .sentinel] true :=
  OpenClaim.laidByTextAt_later rfl rfl tie noOwnUnsafe
theorem tie2 : Tryd.prog.laidByTextLater [("chartroom/digest.start", Rows.laid_chartroom_digest_start), ("chartroom/digest.numbers", Rows.laid_chartroom_digest_numbers), ("bytes.ErrTooLarge", Rows.laid_bytes_ErrTooLarge), ("chartroom/schedule.labels", Rows.laid_chartroom_schedule_labels)] [.data, .data, .sentinel, .data] true :=
  Program.laidByTextLater.sub seatTie1 ["chartroom/digest.start", "chartroom/digest.numbers", "bytes.ErrTooLarge", "chartroom/schedule.labels"] (by kernel_rfl) (by kernel_rfl)
theorem scheduleLadderSpec_row_tie : Rows.scheduleLadderSpecRow.laidByTextAt .later Tryd.pinned [.data, .data, .sentinel, .data] true :=
  OpenClaim.laidByTextAt_later rfl rfl tie2 noOwnUnsafe
theorem scheduleAbove_row_tie : Rows.scheduleAboveRow.laidByTextAt .later Tryd.pinned [.data, .data, .sentinel, .data] true :=
  OpenClaim.laidByTextAt_later rfl rfl tie2 noOwnUnsafe
theorem scheduleEpochSpec_row_tie : Rows.scheduleEpochSpecRow.laidByTextAt .later Tryd.pinned [.data, .data, .sentinel, .data] true :=
  OpenClaim.laidByTextAt_later rfl rfl tie2 noOwnUnsafe
theorem scheduleChain_row_tie : Rows.scheduleChainRow.laidByTextAt .later Tryd.pinned [.data, .data, .sentinel, .data] true :=
  OpenClaim.laidByTextAt_later rfl rfl tie2 noOwnUnsafe
theorem scheduleKeysSpec_row_tie : Rows.scheduleKeysSpecRow.laidByTextAt .later Tryd.pinned [.data, .data, .sentinel, .data] true :=
  OpenClaim.laidByTextAt_later rfl rfl tie2 noOwnUnsafe
theorem schedulePurposes_row_tie : Rows.schedulePurposesRow.laidByTextAt .later Tryd.pinned [.data, .data, .sentinel, .data] true :=
  OpenClaim.laidByTextAt_later rfl rfl tie2 noOwnUnsafe
theorem deriveStepSpecUpto_row_tie : Rows.deriveStepSpecUptoRow.laidByTextAt .later Tryd.pinned [.data, .data, .sentinel] true :=
  OpenClaim.laidByTextAt_later rfl rfl tie noOwnUnsafe
theorem deriveScalarSpecUpto_row_tie : Rows.deriveScalarSpecUptoRow.laidByTextAt .later Tryd.pinned [.data, .data, .sentinel] true :=
  OpenClaim.laidByTextAt_later rfl rfl tie noOwnUnsafe
theorem deriveChainUpto_row_tie : Rows.deriveChainUptoRow.laidByTextAt .later Tryd.pinned [.data, .data, .sentinel] true :=
  OpenClaim.laidByTextAt_later rfl rfl tie noOwnUnsafe
theorem deriveKeysSpecUpto_row_tie : Rows.deriveKeysSpecUptoRow.laidByTextAt .later Tryd.pinned [.data, .data, .sentinel] true :=
  OpenClaim.laidByTextAt_later rfl rfl tie noOwnUnsafe
theorem deriveMixedUpto_row_tie : Rows.deriveMixedUptoRow.laidByTextAt .later Tryd.pinned [.data, .data, .sentinel] true :=
  OpenClaim.laidByTextAt_later rfl rfl tie noOwnUnsafe
theorem scheduleLadderSpecUpto_row_tie : Rows.scheduleLadderSpecUptoRow.laidByTextAt .later Tryd.pinned [.data, .data, .sentinel, .data] true :=
  OpenClaim.laidByTextAt_later rfl rfl tie2 noOwnUnsafe
theorem scheduleAboveUpto_row_tie : Rows.scheduleAboveUptoRow.laidByTextAt .later Tryd.pinned [.data, .data, .sentinel, .data] true :=
  OpenClaim.laidByTextAt_later rfl rfl tie2 noOwnUnsafe
theorem scheduleEpochSpecUpto_row_tie : Rows.scheduleEpochSpecUptoRow.laidByTextAt .later Tryd.pinned [.data, .data, .sentinel, .data] true :=
  OpenClaim.laidByTextAt_later rfl rfl tie2 noOwnUnsafe
theorem scheduleChainUpto_row_tie : Rows.scheduleChainUptoRow.laidByTextAt .later Tryd.pinned [.data, .data, .sentinel, .data] true :=
  OpenClaim.laidByTextAt_later rfl rfl tie2 noOwnUnsafe
theorem scheduleKeysSpecUpto_row_tie : Rows.scheduleKeysSpecUptoRow.laidByTextAt .later Tryd.pinned [.data, .data, .sentinel, .data] true :=
  OpenClaim.laidByTextAt_later rfl rfl tie2 noOwnUnsafe
theorem derivePrivateUpto_row_tie : Rows.derivePrivateUptoRow.laidByTextAt .later Tryd.pinned [.data, .data, .sentinel] true :=
  OpenClaim.laidByTextAt_later rfl rfl tie noOwnUnsafe
theorem deriveHashedUpto_row_tie : Rows.deriveHashedUptoRow.laidByTextAt .later Tryd.pinned [.data, .data, .sentinel] true :=
  OpenClaim.laidByTextAt_later rfl rfl tie noOwnUnsafe
theorem schedulePurposesUpto_row_tie : Rows.schedulePurposesUptoRow.laidByTextAt .later Tryd.pinned [.data, .data, .sentinel, .data] true :=
  OpenClaim.laidByTextAt_later rfl rfl tie2 noOwnUnsafe
end Go.Proofs.YtphgokaeonkjaaaDoor
